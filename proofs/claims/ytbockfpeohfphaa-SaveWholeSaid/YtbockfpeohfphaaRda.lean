/- strings.Builder: its check of copies, and its text, wherever the Builder lies. -/
import Derived.WalkKit
import Derived.OwnWalk
import Derived.Lib.Builder
import Derived.Lib.UnsafeStr
import Derived.Lib.Walk
import Derived.Laws.Externs
import Derived.Shelf.RegionOpenPlain
import Derived.Test.YtbockfpeohfphaaChecked
import Derived.Shelf.Strings.Builder1
import Derived.Shelf.Strings.BuilderF
import Derived.Shelf.Strings.BuilderK
import Derived.WalkSmall
import Derived.WalkLawsBesides
import Derived.Defers
import Derived.Recover
import Derived.Below
import Derived.Laws.IdiomStrings
import Derived.Laws.Bits64
import Derived.Laws.Bits64b
import Derived.Lib.Hide

namespace Go.Proofs.Bld
open Go Go.RowKit Go.Proofs

theorem noEsc : ∀ (args : Array Value) (w : World), (callFunc 77 args).run Try.prog w = ((Extern.AbiNoEscape.same args).run Try.prog w).andThen fun v w' => .ok (.value v) w' :=
  fun args w => run_callFunc_extern Try.func77 (by kernel_rfl) (by kernel_rfl) (by kernel_rfl) (e := Extern.AbiNoEscape.same) (by kernel_rfl) args w
theorem infoB : ∃ j, Try.prog.info? 64 = some j ∧ j.size = 2 := by
  have h : (Try.prog.info? 64).map (·.size) = some 2 := by kernel_rfl
  obtain ⟨j, hj, hs⟩ := Option.map_eq_some_iff.1 h
  exact ⟨j, hj, hs⟩

set_option maxHeartbeats 1000000 in
set_option maxRecDepth 100000 in
theorem cc_used (b o : Nat) (w : World) (h0 : w.cell? ⟨b, o, none⟩ = some (.pointer (some ⟨b, o, none⟩))) :
    Calls Try.prog 75 #[.pointer (some ⟨b, o, none⟩)] w fun e w' => e = .returned (.tuple #[]) ∧ w' = w := by
  obtain ⟨j, hj, _⟩ := infoB
  go_enter Try.func75, Try.ntmps75
  go_wp2
  rw [Lib.run_neq_ptr_same w _ Try.underlying61 hj]
  go_wp2
  go_end0
  exact ⟨rfl, rfl⟩

set_option maxHeartbeats 1000000 in
set_option maxRecDepth 100000 in
theorem cc_fresh (b o : Nat) (T : TypeId) (cells : Nat) (w : World) (h0 : w.cell? ⟨b, o, none⟩ = some (.pointer none)) (hsh : w.shape? b = some (T, cells)) (hoff : o < cells)
    (hl : liesAt Try.prog Try.prog.depth T (cells / Try.prog.cellsOf T) o 64 1 = true) (hfz : w.frozen? ⟨b, o, none⟩ = false) :
    Calls Try.prog 75 #[.pointer (some ⟨b, o, none⟩)] w fun e w' => e = .returned (.tuple #[]) ∧ w' = w.setCell ⟨b, o, none⟩ (.pointer (some ⟨b, o, none⟩)) := by
  obtain ⟨j, hj, hjs⟩ := infoB
  go_enter Try.func75, Try.ntmps75
  go_wp2
  rw [Lib.run_to_unsafe w ⟨b, o, none⟩ Try.underlying61 Try.underlying175 hj (by rw [hjs]; decide) hsh hoff]
  simp only [Result.andThen]
  rw [Oper.upon_value]
  go_wp2
  rw [noEsc]
  rw [Lib.run_noEscape]
  simp only [Result.andThen]
  rw [Oper.upon_value]
  go_wp2
  rw [Lib.run_from_unsafe w ⟨b, o, none⟩ Try.underlying175 Try.underlying61 hj hsh hl]
  simp only [Result.andThen]
  rw [Oper.upon_value]
  go_wp2
  go_end0
  exact ⟨rfl, rfl⟩
end Go.Proofs.Bld

namespace Go.Proofs.Bld
open Go Go.RowKit Go.Proofs
theorem liesAt_bytes_off {P : Program} {e : TypeId} (hc : P.cellsOf e = 1) (count off n : Nat) (hn : off + n ≤ count) : liesAt P P.depth e count off e n = true := by
  have hd : P.depth = (2 * (P.types.size + Made.depth) + 1) + 1 := rfl
  rw [hd]
  simp only [liesAt, Bool.or_eq_true]
  left
  rw [hd]
  simp [rowAt, hc, hn, sameLayout, Nat.mod_one]
theorem run_unsafeString_off {P : Program} (w : World) (pt it ty e : TypeId) (hp : P.underlying pt = some (.pointer e)) (hc : P.cellsOf e = 1) (g o cells : Nat) (hsh : w.shape? g = some (e, cells)) (l : List UInt8) (h0 : l ≠ []) (hn : o + l.length ≤ cells) (h63 : l.length ≤ 9223372036854775807)
    (hcell : ∀ (j : Nat) (x : UInt8), l[j]? = some x → w.cell? ((⟨g, o, none⟩ : Addr).add j) = some (.int .u8 x.toNat)) :
    (Builtin.unsafeString_ #[pt, it] ty #[.pointer (some ⟨g, o, none⟩), .int .i64 l.length]).run P w = .ok (.string ⟨l.toArray⟩) (w.freeze ⟨g, o, none⟩ l.length) := by
  have hl : l.length ≠ 0 := by simpa using h0
  have hlb := Lib.run_loadBytes (P := P) w l ⟨g, o, none⟩ .empty hcell
  have hlies := liesAt_bytes_off (P := P) hc (cells / P.cellsOf e) o l.length (by rw [hc]; simpa using hn)
  have h63' : ¬ (9223372036854775807 : Int) < (l.length : Int) := by omega
  have hmax : IntKind.i64.max = 9223372036854775807 := rfl
  have hneg : ¬ ((l.length : Int) < 0) := by omega
  have he0 : ByteArray.empty.data = #[] := rfl
  rw [he0] at hlb
  change Sem.run P ((asInt (.int .i64 l.length)) >>= _) w = _
  simp [asInt, asIntOf, hmax, hneg, h63', h0, variablesAt, hsh, elemOf, run_underlying hp, hlies, hlb]

theorem mixed : Try.prog.follows .mixedOrders = true := by kernel_rfl
set_option maxHeartbeats 2000000 in
set_option maxRecDepth 100000 in
theorem str_some (b o g p cap cells : Nat) (l : List UInt8) (w : World) (h1 : w.cell? ⟨b, o + 1, none⟩ = some (.slice (some ⟨g, p, none⟩) l.length cap)) (h0 : l ≠ []) (hcap : cap ≠ 0) (hsh : w.shape? g = some (5, cells)) (hn : p + l.length ≤ cells) (h63 : l.length ≤ 9223372036854775807)
    (hcell : ∀ (j : Nat) (x : UInt8), l[j]? = some x → w.cell? ((⟨g, p, none⟩ : Addr).add j) = some (.int .u8 x.toNat)) :
    Calls Try.prog 15 #[.pointer (some ⟨b, o, none⟩)] w fun e w' => e = .returned (.string ⟨l.toArray⟩) ∧ w' = w.drew.freeze ⟨g, p, none⟩ l.length := by
  have c1 : w.drew.cell? ⟨b, o + 1, none⟩ = some (.slice (some ⟨g, p, none⟩) l.length cap) := h1
  have hSD : ∀ ts ty, (Builtin.unsafeSliceData_ ts ty #[.slice (some ⟨g, p, none⟩) l.length cap]).run Try.prog w.drew = .ok (.pointer (some ⟨g, p, none⟩)) w.drew := fun ts ty => Lib.run_unsafeSliceData_row _ _ _ _ _ _ hcap
  have hU8 : Try.prog.cellsOf 5 = 1 := by kernel_rfl
  have hUS : ∀ it ty, (Builtin.unsafeString_ #[107, it] ty #[.pointer (some ⟨g, p, none⟩), .int .i64 l.length]).run Try.prog w.drew = .ok (.string ⟨l.toArray⟩) (w.drew.freeze ⟨g, p, none⟩ l.length) := fun it ty =>
    run_unsafeString_off w.drew 107 it ty 5 Try.underlying107 hU8 g p cells hsh l h0 hn h63 hcell
  have mixed := mixed
  go_enter Try.func15, Try.ntmps15
  go_wp2
  go_region_o
  all_goals (go_wp2; go_ret; exact ⟨rfl, rfl⟩)
set_option maxHeartbeats 2000000 in
set_option maxRecDepth 100000 in
theorem str_nil (b o c : Nat) (w : World) (h1 : w.cell? ⟨b, o + 1, none⟩ = some (.slice none 0 c)) :
    Calls Try.prog 15 #[.pointer (some ⟨b, o, none⟩)] w fun e w' => e = .returned (.string ⟨#[]⟩) ∧ w' = w.drew := by
  have c1 : w.drew.cell? ⟨b, o + 1, none⟩ = some (.slice none 0 c) := h1
  have hSD : ∀ ts ty, (Builtin.unsafeSliceData_ ts ty #[.slice none 0 c]).run Try.prog w.drew = .ok (.pointer none) w.drew := fun ts ty => rfl
  have hUS : ∀ pt it ty, (Builtin.unsafeString_ #[pt, it] ty #[.pointer none, .int .i64 0]).run Try.prog w.drew = .ok (.string .empty) w.drew := fun pt it ty => Lib.run_unsafeString_none _ _ _ _ _
  have mixed := mixed
  go_enter Try.func15, Try.ntmps15
  go_wp2
  go_region_o
  all_goals (go_wp2; go_ret; exact ⟨rfl, rfl⟩)
end Go.Proofs.Bld

namespace Go.Proofs
open Go.Shelf
def Try.lays167_ren : Go.Shelf.Ren := ⟨fun | 167 => 78 | 240 => 75 | 276 => 77 | n => n, fun | 0 => 0 | 4 => 4 | 5 => 5 | 9 => 9 | 20 => 20 | 37 => 62 | 70 => 61 | 72 => 64 | 75 => 166 | 80 => 69 | 164 => 175 | n => n, fun | n => n⟩
theorem Try.lays167 : Go.Proofs.Lays.n167 Try.prog Try.lays167_ren := {
  mixed := by kernel_rfl
  f167 := Try.func78.trans (congrArg some (by kernel_rfl))
  f240 := Try.func75.trans (congrArg some (by kernel_rfl))
  f276 := Try.func77.trans (congrArg some (by kernel_rfl))
  t0 := Try.underlying0
  a0 := Try.isAgg0
  z0 := Try.sizeOf0
  v0 := Try.zeroValue0
  t4 := Try.underlying4
  a4 := Try.isAgg4
  z4 := Try.sizeOf4
  v4 := Try.zeroValue4
  t5 := Try.underlying5
  a5 := Try.isAgg5
  z5 := Try.sizeOf5
  v5 := Try.zeroValue5
  t9 := Try.underlying9
  a9 := Try.isAgg9
  z9 := Try.sizeOf9
  v9 := Try.zeroValue9
  t20 := Try.underlying20
  a20 := Try.isAgg20
  z20 := Try.sizeOf20
  v20 := Try.zeroValue20
  t37 := Try.underlying62
  a37 := Try.isAgg62
  z37 := Try.sizeOf62
  v37 := Try.zeroValue62
  t70 := Try.underlying61
  a70 := Try.isAgg61
  z70 := Try.sizeOf61
  v70 := Try.zeroValue61
  t72 := Try.underlying64
  a72 := Try.isAgg64
  z72 := Try.sizeOf64
  v72 := Try.zeroValue64
  t75 := Try.underlying166
  a75 := Try.isAgg166
  z75 := Try.sizeOf166
  v75 := Try.zeroValue166
  t164 := Try.underlying175
  a164 := Try.isAgg175
  z164 := Try.sizeOf175
  v164 := Try.zeroValue175 }
theorem Try.Builder_Extra_167 : Builder.Extra Try.prog Try.lays167_ren := {
  sizeBuilder := by kernel_rfl
  liesBuilder := by kernel_rfl
  t5 := Try.underlying5
  a5 := Try.isAgg5
  z5 := Try.sizeOf5
  v5 := Try.zeroValue5
  infoByte := by kernel_rfl
  cellsByte := by kernel_rfl
  sizeByte := by kernel_rfl
  neB5 := by decide }
open Go.RowKit in
theorem Try.Builder_WriteByte_k (B b : Nat) (bs : List Value) (c : Int) (w : World) (h : Lib.IsBuilderF 64 5 B b bs w) (hlen : bs.length + 1 ≤ 140737488355328) (hBw : B ≤ w.heap.size) :
    Calls Try.prog 78 #[.pointer (some ⟨b, 0, none⟩), .int .u8 c] w fun e w' => e = .returned .nilIface ∧ (Lib.BuilderAtF 64 5 B b (.pointer (some ⟨b, 0, none⟩)) (bs ++ [.int .u8 c]) w' ∧ Below B w w' ∧ Lib.OthersKept 5 (some b) w w') := Any.Builder_WriteByte_k Try.lays167 Try.Builder_Extra_167 B b bs c w h hlen hBw
def Try.lays166_ren : Go.Shelf.Ren := ⟨fun | 166 => 69 | 240 => 75 | 276 => 77 | n => n, fun | 0 => 0 | 3 => 3 | 4 => 4 | 5 => 5 | 9 => 9 | 20 => 20 | 37 => 62 | 70 => 61 | 72 => 64 | 75 => 166 | 80 => 69 | 164 => 175 | n => n, fun | n => n⟩
theorem Try.lays166 : Go.Proofs.Lays.n166 Try.prog Try.lays166_ren := {
  mixed := by kernel_rfl
  f166 := Try.func69.trans (congrArg some (by kernel_rfl))
  f240 := Try.func75.trans (congrArg some (by kernel_rfl))
  f276 := Try.func77.trans (congrArg some (by kernel_rfl))
  t0 := Try.underlying0
  a0 := Try.isAgg0
  z0 := Try.sizeOf0
  v0 := Try.zeroValue0
  t3 := Try.underlying3
  a3 := Try.isAgg3
  z3 := Try.sizeOf3
  v3 := Try.zeroValue3
  t4 := Try.underlying4
  a4 := Try.isAgg4
  z4 := Try.sizeOf4
  v4 := Try.zeroValue4
  t9 := Try.underlying9
  a9 := Try.isAgg9
  z9 := Try.sizeOf9
  v9 := Try.zeroValue9
  t20 := Try.underlying20
  a20 := Try.isAgg20
  z20 := Try.sizeOf20
  v20 := Try.zeroValue20
  t37 := Try.underlying62
  a37 := Try.isAgg62
  z37 := Try.sizeOf62
  v37 := Try.zeroValue62
  t70 := Try.underlying61
  a70 := Try.isAgg61
  z70 := Try.sizeOf61
  v70 := Try.zeroValue61
  t72 := Try.underlying64
  a72 := Try.isAgg64
  z72 := Try.sizeOf64
  v72 := Try.zeroValue64
  t75 := Try.underlying166
  a75 := Try.isAgg166
  z75 := Try.sizeOf166
  v75 := Try.zeroValue166
  t164 := Try.underlying175
  a164 := Try.isAgg175
  z164 := Try.sizeOf175
  v164 := Try.zeroValue175 }
theorem Try.Builder_Extra_166 : Builder.Extra Try.prog Try.lays166_ren := {
  sizeBuilder := by kernel_rfl
  liesBuilder := by kernel_rfl
  t5 := Try.underlying5
  a5 := Try.isAgg5
  z5 := Try.sizeOf5
  v5 := Try.zeroValue5
  infoByte := by kernel_rfl
  cellsByte := by kernel_rfl
  sizeByte := by kernel_rfl
  neB5 := by decide }
open Go.RowKit in
theorem Try.Builder_WriteString_k (B b : Nat) (bs : List Value) (s : ByteArray) (w : World) (h : Lib.IsBuilderF 64 5 B b bs w) (hlen : bs.length + s.size ≤ 140737488355328) (hBw : B ≤ w.heap.size) :
    Calls Try.prog 69 #[.pointer (some ⟨b, 0, none⟩), .string s] w fun e w' => e = .returned (.tuple #[.int .i64 s.size, .nilIface]) ∧ (Lib.BuilderAtF 64 5 B b (.pointer (some ⟨b, 0, none⟩)) (bs ++ Lib.strCells s) w' ∧ Below B w w' ∧ Lib.OthersKept 5 (some b) w w') := Any.Builder_WriteString_k Try.lays166 Try.Builder_Extra_166 B b bs s w h hlen hBw
def Try.lays169_ren : Go.Shelf.Ren := ⟨fun | 169 => 15 | n => n, fun | 0 => 0 | 3 => 3 | 5 => 5 | 9 => 9 | 37 => 62 | 70 => 61 | 72 => 64 | 127 => 107 | n => n, fun | n => n⟩
theorem Try.lays169 : Go.Proofs.Lays.n169 Try.prog Try.lays169_ren := {
  mixed := by kernel_rfl
  f169 := Try.func15.trans (congrArg some (by kernel_rfl))
  t0 := Try.underlying0
  a0 := Try.isAgg0
  z0 := Try.sizeOf0
  v0 := Try.zeroValue0
  t3 := Try.underlying3
  a3 := Try.isAgg3
  z3 := Try.sizeOf3
  v3 := Try.zeroValue3
  t9 := Try.underlying9
  a9 := Try.isAgg9
  z9 := Try.sizeOf9
  v9 := Try.zeroValue9
  t37 := Try.underlying62
  a37 := Try.isAgg62
  z37 := Try.sizeOf62
  v37 := Try.zeroValue62
  t70 := Try.underlying61
  a70 := Try.isAgg61
  z70 := Try.sizeOf61
  v70 := Try.zeroValue61
  t72 := Try.underlying64
  a72 := Try.isAgg64
  z72 := Try.sizeOf64
  v72 := Try.zeroValue64
  t127 := Try.underlying107
  a127 := Try.isAgg107
  z127 := Try.sizeOf107
  v127 := Try.zeroValue107 }
theorem Try.Builder_Extra_169 : Builder.Extra Try.prog Try.lays169_ren := {
  sizeBuilder := by kernel_rfl
  liesBuilder := by kernel_rfl
  t5 := Try.underlying5
  a5 := Try.isAgg5
  z5 := Try.sizeOf5
  v5 := Try.zeroValue5
  infoByte := by kernel_rfl
  cellsByte := by kernel_rfl
  sizeByte := by kernel_rfl
  neB5 := by decide }
open Go.RowKit in
theorem Try.Builder_String_any_k (B b : Nat) (l : List UInt8) (w : World) (h : Lib.IsBuilderF 64 5 B b (Lib.byteCells l) w) (hBw : B ≤ w.heap.size) :
    Calls Try.prog 15 #[.pointer (some ⟨b, 0, none⟩)] w fun e w' => e = .returned (.string ⟨l.toArray⟩) ∧ (Lib.IsBuilderF 64 5 B b (Lib.byteCells l) w' ∧ Below B w w' ∧ Lib.OthersKept 5 (some b) w w') := Any.Builder_String_any_k Try.lays169 Try.Builder_Extra_169 B b l w h hBw
end Go.Proofs

namespace Go.Proofs.Rdr
open Go Go.RowKit Go.Proofs
def lackE (e : Int) : PanicEntry := { v := .iface 143 (.agg #[.int .i64 e]), recovered := false }
theorem need_ok (e : Int) (w : World) : Calls Try.prog 34 #[.bool true, .int .i64 e] w fun r w' => r = .returned (.tuple #[]) ∧ w' = w := by
  go_enter Try.func34, Try.ntmps34
  go_wp2
  go_end0
  exact ⟨rfl, rfl⟩
theorem need_no (e : Int) (w : World) : Calls Try.prog 34 #[.bool false, .int .i64 e] w fun r w' => r = .panicked [lackE e] ∧ w' = w := by
  go_enter Try.func34, Try.ntmps34
  go_wp2
  exact ⟨rfl, rfl, rfl⟩
set_option maxHeartbeats 1000000 in
theorem take_ok (bp n : Nat) (s : ByteArray) (w : World) (hc : w.cell? ⟨bp, 0, none⟩ = some (.string s)) (hz : w.frozen? ⟨bp, 0, none⟩ = false) (hn : n ≤ s.size) (_hs : s.size < 9223372036854775808) :
    Calls Try.prog 106 #[.pointer (some ⟨bp, 0, none⟩), .int .i64 n] w fun r w' => r = .returned (.string (s.extract 0 n)) ∧ w' = w.setCell ⟨bp, 0, none⟩ (.string (s.extract n s.size)) := by
  go_enter Try.func106, Try.ntmps106
  go_wp2_with (go_at_call 34; refine (need_ok _ _).mono ?_; rintro e w' ⟨rfl, rfl⟩)
  go_ret
  exact ⟨rfl, rfl⟩
set_option maxHeartbeats 1000000 in
theorem take_short (bp n : Nat) (s : ByteArray) (w : World) (hc : w.cell? ⟨bp, 0, none⟩ = some (.string s)) (hn : s.size < n) (_hs : s.size < 9223372036854775808) :
    Calls Try.prog 106 #[.pointer (some ⟨bp, 0, none⟩), .int .i64 n] w fun r w' => r = .panicked [lackE 8] ∧ w' = w := by
  have hle : decide (n ≤ s.size) = false := by simp; omega
  go_enter Try.func106, Try.ntmps106
  go_wp2_with (go_at_call 34; refine (need_no _ _).mono ?_; rintro e w' ⟨rfl, rfl⟩)
  exact ⟨rfl, rfl, rfl⟩
end Go.Proofs.Rdr

namespace Go.Proofs.Rdr
open Go Go.RowKit Go.Proofs
/-- the highest byte first -/
def be (l : List UInt8) : Nat := l.foldl (fun a b => a * 256 + b.toNat) 0
theorem be_snoc (l : List UInt8) (b : UInt8) : be (l ++ [b]) = be l * 256 + b.toNat := by unfold be; rw [List.foldl_append]; rfl
theorem be_go : ∀ (l : List UInt8) (a n : Nat), a < 256 ^ n → l.foldl (fun a b => a * 256 + b.toNat) a < 256 ^ (n + l.length) := by
  intro l
  induction l with
  | nil => intro a n h; exact h
  | cons b l ih =>
    intro a n h
    have hb := b.toNat_lt
    have := ih (a * 256 + b.toNat) (n + 1) (by rw [Nat.pow_succ]; omega)
    rw [List.length_cons, show n + (l.length + 1) = n + 1 + l.length by omega]
    exact this
theorem be_lt (l : List UInt8) : be l < 256 ^ l.length := by
  have := be_go l 0 0 (by decide)
  rw [Nat.zero_add] at this
  exact this
theorem be_lt8 (l : List UInt8) (h : l.length ≤ 7) : be l < 72057594037927936 := Nat.lt_of_lt_of_le (be_lt l) (Nat.pow_le_pow_right (by decide) h : 256 ^ l.length ≤ 256 ^ 7)
theorem or_byte (a b : Nat) (hb : b < 256) : (a * 256) ||| b = a * 256 + b := by
  have := Nat.two_pow_add_eq_or_of_lt (i := 8) (b := b) hb a
  rw [Nat.mul_comm a 256]
  exact this.symm
theorem bytesRow_get (s : ByteArray) (cap k : Nat) (hk : k < s.size) : (bytesRow s cap)[k]? = some (.int .u8 (s[k].toNat : Int)) := by
  unfold bytesRow
  have hs : k < (s.data.map (fun b => Value.int .u8 (b.toNat : Int))).size := by simpa using hk
  rw [Array.getElem?_append_left hs]
  simp [Array.getElem?_map]
  exact ⟨s[k], by rw [Array.getElem?_eq_getElem (by simpa using hk)]; rfl, rfl⟩
def Num (bp : Nat) (v : Value) (x : Nat) (_rest : ByteArray) (w : World) (r : Ending) (w' : World) : Prop := r = .returned (.int .u64 x) ∧ Below w.heap.size (w.setCell ⟨bp, 0, none⟩ v) w'
theorem number_ok (bp n : Nat) (s : ByteArray) (w : World) (hc : w.cell? ⟨bp, 0, none⟩ = some (.string s)) (hz : w.frozen? ⟨bp, 0, none⟩ = false) (hn : n ≤ s.size) (hs : s.size < 9223372036854775808) (h8 : n ≤ 8) :
    Calls Try.prog 96 #[.pointer (some ⟨bp, 0, none⟩), .int .i64 n] w (Num bp (.string (s.extract n s.size)) (be (s.extract 0 n).data.toList) (s.extract n s.size) w) := by
  have hconv : ∀ (w : World) (s : ByteArray), (convert 9 62 (.string s)).run Try.prog w = .ok (.slice (some ⟨w.heap.size, 0, none⟩) s.size (grownCap w s.size 0 5))
      (w.drew.alloc (.cells (bytesRow s (grownCap w s.size 0 5)) 5 ((bytesRow s (grownCap w s.size 0 5)).size, (bytesRow s (grownCap w s.size 0 5)).size + 1))) := fun w s =>
    run_bytes_of_string w 9 62 5 s Try.underlying9 Try.underlying62 Try.underlying5
  generalize hx : s.extract 0 n = x
  have hxs : n = x.size := by rw [← hx, ByteArray.size_extract]; omega
  have T := take_ok bp n s w hc hz hn hs
  rw [hx] at T
  generalize hw1 : w.setCell ⟨bp, 0, none⟩ (.string (s.extract n s.size)) = w1 at T
  generalize s.extract n s.size = rest at *
  subst hxs
  have HW := Go.Lib.hid hw1
  clear hx hw1 hc hz hn hs
  go_enter Try.func96, Try.ntmps96
  go_wp2_with (go_at_call 106; refine T.mono ?_; rintro e w' ⟨rfl, hw'⟩; obtain rfl : w1 = w' := hw'.symm)
  generalize hrow : (Obj.cells (bytesRow x (grownCap _ x.size 0 5)) 5 ((bytesRow x (grownCap _ x.size 0 5)).size, (bytesRow x (grownCap _ x.size 0 5)).size + 1)) = row
  have HB : Hid (∀ k (hk : k < x.size), (w1.alloc row).drew.cell? ⟨w1.heap.size, k, none⟩ = some (.int .u8 (x[k].toNat : Int))) := Go.Lib.hid fun k hk => by
    have h1 : (w1.alloc row).drew.heap[w1.heap.size]? = some row := by
      show (w1.heap.push row)[w1.heap.size]? = _; simp
    rw [← hrow] at h1
    have h2 := bytesRow_get x (grownCap w1 x.size 0 5) k hk
    simp only [World.cell?, ← hrow, h1, h2]
    rfl
  clear hrow hconv
  go_loop [5, 13] (fun v i => ∃ k : Nat, k ≤ x.size ∧ i = .int .i64 k ∧ v = .int .u64 (be (x.data.toList.take k) : Nat)) (fun _ i => x.size - (intOf i).toNat)
  case atStart => exact ⟨0, Nat.zero_le _, rfl, rfl⟩
  case round =>
    obtain ⟨k, hk, rfl, rfl⟩ := hrel
    by_cases hlt : k < x.size
    · have hbk := HB.out k hlt
      have h7 : be (x.data.toList.take k) < 72057594037927936 := be_lt8 _ (by simp; omega)
      generalize hb : be (x.data.toList.take k) = a at *
      go_wp2
      refine ⟨⟨k + 1, by omega, by go_num, ?_⟩, by simp [intOf]; omega⟩
      have hb8 := x[k].toNat_lt
      have ht : List.take (k + 1) x.data.toList = List.take k x.data.toList ++ [x[k]] := by
        rw [List.take_succ_eq_append_getElem (by simpa using hlt)]; rfl
      have e1 : IntKind.u64.wrap ((x[k].toNat : Nat) : Int) = ((x[k].toNat : Nat) : Int) := by rw [IntKind.wrap_u64]; omega
      have e2 : ((a : Int) * 256) = ((a * 256 : Nat) : Int) := by omega
      rw [ht, be_snoc, hb, e1, e2, bits_or_u64_nat _ _ (by omega) (by omega), or_byte _ _ hb8]
    · go_wp2
      go_ret
      have hkk : k = x.size := by omega
      refine ⟨?_, ?_⟩
      · rw [hkk, List.take_of_length_le (by simp)]; rfl
      · have hw : w.setCell ⟨bp, 0, none⟩ (.string rest) = w1 := HW
        rw [hw]
        have hsz : w.heap.size ≤ w1.heap.size := by rw [← hw]; simp [World.setCell]
        exact ((Below.refl _ w1).alloc hsz row).drew
theorem number_short (bp n : Nat) (s : ByteArray) (w : World) (hc : w.cell? ⟨bp, 0, none⟩ = some (.string s)) (hn : s.size < n) (hs : s.size < 9223372036854775808) :
    Calls Try.prog 96 #[.pointer (some ⟨bp, 0, none⟩), .int .i64 n] w fun r w' => r = .panicked [lackE 8] ∧ w' = w := by
  have T := take_short bp n s w hc hn hs
  clear hc hn hs
  go_enter Try.func96, Try.ntmps96
  go_wp2_with (go_at_call 106; refine T.mono ?_; rintro e w' ⟨rfl, rfl⟩)
  exact ⟨rfl, rfl, rfl⟩
end Go.Proofs.Rdr

namespace Go.Proofs.Rdr
open Go Go.RowKit Go.Proofs
theorem mixed : Try.prog.follows .mixedOrders = true := by kernel_rfl
set_option maxHeartbeats 400000 in
theorem idle64 (pv rv xv ev pb rb ro : Nat) (s : ByteArray) (w : World) (h1 : w.cell? ⟨pv, 0, none⟩ = some (.pointer (some ⟨pb, 0, none⟩))) (h2 : w.cell? ⟨rv, 0, none⟩ = some (.pointer (some ⟨rb, ro, none⟩)))
    (h3 : w.cell? ⟨pb, 0, none⟩ = some (.string s)) (old : Value) (h4 : w.cell? ⟨rb, ro, none⟩ = some old) (h5 : w.frozen? ⟨rb, ro, none⟩ = false) :
    CallsD Try.prog 109 #[.pointer (some ⟨pv, 0, none⟩), .pointer (some ⟨rv, 0, none⟩), .pointer (some ⟨xv, 0, none⟩), .pointer (some ⟨ev, 0, none⟩)] .returning w fun e u' w' =>
      e = .returned (.tuple #[]) ∧ u' = .returning ∧ w' = w.drew.setCell ⟨rb, ro, none⟩ (.string s) := by
  have mixed := mixed
  refine callsD_of_wpS Try.func109 rfl fun c₀ cs hu => ?_
  apply wpS_seq
  apply wpS_region
  simp [wpOpsS, go_sem, recoverD, hu, Try.ntmps109, Exit.thenS]
  have hnil : ∀ w : World, (binOp BinOp.eql 20 .nilIface .nilIface).run Try.prog w = .ok (.bool true) w := fun _ => by kernel_rfl
  have g1 : w.drew.cell? ⟨pv, 0, none⟩ = some (.pointer (some ⟨pb, 0, none⟩)) := h1
  have g2 : w.drew.cell? ⟨rv, 0, none⟩ = some (.pointer (some ⟨rb, ro, none⟩)) := h2
  have g3 : w.drew.cell? ⟨pb, 0, none⟩ = some (.string s) := h3
  have g4 : w.drew.cell? ⟨rb, ro, none⟩ = some old := h4
  have g5 : w.drew.frozen? ⟨rb, ro, none⟩ = false := h5
  refine wpS_of_wp ?_
  have ht : (#[.pointer (some ⟨pv, 0, none⟩), .pointer (some ⟨rv, 0, none⟩), .pointer (some ⟨xv, 0, none⟩), .pointer (some ⟨ev, 0, none⟩)] ++ (Array.replicate 28 undef).setIfInBounds 4 Value.nilIface : Array Value) = #[.pointer (some ⟨pv, 0, none⟩), .pointer (some ⟨rv, 0, none⟩), .pointer (some ⟨xv, 0, none⟩), .pointer (some ⟨ev, 0, none⟩), undef, undef, undef, undef, .nilIface, undef, undef, undef, undef, undef, undef, undef, undef, undef, undef, undef, undef, undef, undef, undef, undef, undef, undef, undef, undef, undef, undef, undef] := by simp [Array.replicate, List.replicate]
  rw [ht]
  go_wp2
  go_region_o
  all_goals
    go_wp2
  cases c₀
  simp_all [bodyPostS, results, Try.results109]
set_option maxHeartbeats 2000000 in
theorem caught64 (pv rv xv ev rb ro : Nat) (er : Int) (w : World) (h2 : w.cell? ⟨rv, 0, none⟩ = some (.pointer (some ⟨rb, ro, none⟩)))
    (ox oe os or_ : Value) (h4 : w.cell? ⟨xv, 0, none⟩ = some ox) (h5 : w.frozen? ⟨xv, 0, none⟩ = false) (h6 : w.cell? ⟨ev, 0, none⟩ = some oe) (h7 : w.frozen? ⟨ev, 0, none⟩ = false)
    (h8 : w.cell? ⟨rb, ro, none⟩ = some os) (h9 : w.frozen? ⟨rb, ro, none⟩ = false) (h10 : w.cell? ⟨rb, ro + 1, none⟩ = some or_) (h11 : w.frozen? ⟨rb, ro + 1, none⟩ = false)
    (d1 : xv ≠ rv) (d2 : ev ≠ rv) (d3 : xv ≠ ev) (d4 : xv ≠ rb) (d5 : ev ≠ rb) (d6 : rb ≠ rv) (l1 : rv < w.heap.size) (l2 : xv < w.heap.size) (l3 : ev < w.heap.size) (l4 : rb < w.heap.size) :
    CallsD Try.prog 109 #[.pointer (some ⟨pv, 0, none⟩), .pointer (some ⟨rv, 0, none⟩), .pointer (some ⟨xv, 0, none⟩), .pointer (some ⟨ev, 0, none⟩)] (.panicking [{ lackE er with recovered := false }]) w fun e u' w' =>
      e = .returned (.tuple #[]) ∧ u' = .panicking [{ lackE er with recovered := true }] ∧
      w' = (((((w.alloc (.cells #[.int .i64 er] 143)).setCell ⟨xv, 0, none⟩ (.int .u64 0)).setCell ⟨ev, 0, none⟩ (.int .i64 er)).drew.setCell ⟨rb, ro, none⟩ (.string ⟨#[]⟩)).setCell ⟨rb, ro + 1, none⟩ (.int .i64 er)).drew := by
  have mixed := mixed
  unfold lackE
  refine callsD_of_wpS Try.func109 rfl fun c₀ cs hu => ?_
  apply wpS_seq
  apply wpS_region
  simp [wpOpsS, go_sem, recoverD, hu, Try.ntmps109, Exit.thenS]
  have hnil : ∀ w : World, (binOp BinOp.eql 20 (.iface 143 (.agg #[.int .i64 er])) .nilIface).run Try.prog w = .ok (.bool false) w := fun _ => by kernel_rfl
  have hta : ∀ w : World, (Instr.typeAssert (.iface 143 (.agg #[.int .i64 er])) 20 143 true).run Try.prog w = .ok (.tuple #[.agg #[.int .i64 er], .bool true]) w := fun _ => by kernel_rfl
  refine wpS_of_wp ?_
  have ht : (#[.pointer (some ⟨pv, 0, none⟩), .pointer (some ⟨rv, 0, none⟩), .pointer (some ⟨xv, 0, none⟩), .pointer (some ⟨ev, 0, none⟩)] ++ (Array.replicate 28 undef).setIfInBounds 4 (.iface 143 (.agg #[.int .i64 er])) : Array Value) = #[.pointer (some ⟨pv, 0, none⟩), .pointer (some ⟨rv, 0, none⟩), .pointer (some ⟨xv, 0, none⟩), .pointer (some ⟨ev, 0, none⟩), undef, undef, undef, undef, (.iface 143 (.agg #[.int .i64 er])), undef, undef, undef, undef, undef, undef, undef, undef, undef, undef, undef, undef, undef, undef, undef, undef, undef, undef, undef, undef, undef, undef, undef] := by simp [Array.replicate, List.replicate]
  rw [ht]
  have HB : Below w.heap.size w (w.alloc (.cells #[.int .i64 er] 143)) := (Below.refl _ w).alloc (Nat.le_refl _) _
  have hl : (w.alloc (.cells #[.int .i64 er] 143)).cell? ⟨w.heap.size, 0, none⟩ = some (.int .i64 er) := by simp [go_sem]
  have k2 := (HB.cell (p := ⟨rv, 0, none⟩) l1).trans h2
  have k4 := (HB.cell (p := ⟨xv, 0, none⟩) l2).trans h4
  have k5 := (HB.frozen (p := ⟨xv, 0, none⟩) l2).trans h5
  have k6 := (HB.cell (p := ⟨ev, 0, none⟩) l3).trans h6
  have k7 := (HB.frozen (p := ⟨ev, 0, none⟩) l3).trans h7
  have k8 := (HB.cell (p := ⟨rb, ro, none⟩) l4).trans h8
  have k9 := (HB.frozen (p := ⟨rb, ro, none⟩) l4).trans h9
  have k10 := (HB.cell (p := ⟨rb, ro + 1, none⟩) l4).trans h10
  have k11 := (HB.frozen (p := ⟨rb, ro + 1, none⟩) l4).trans h11
  have n1 : w.heap.size ≠ xv := by omega
  have n2 : w.heap.size ≠ ev := by omega
  have n3 : rb ≠ w.heap.size := by omega
  go_wp2
  clear HB h2 h4 h5 h6 h7 h8 h9 h10 h11 l1 l2 l3 l4
  generalize w.heap.size = lb at *
  generalize hw1 : w.alloc (.cells #[.int .i64 er] 143) = w1 at *
  have HW1 := Go.Lib.hid hw1
  clear hw1
  have q2 : (⟨xv, 0, none⟩ : Addr) ≠ ⟨rv, 0, none⟩ := fun e => d1 (congrArg Addr.block e)
  have q3 : (⟨ev, 0, none⟩ : Addr) ≠ ⟨rv, 0, none⟩ := fun e => d2 (congrArg Addr.block e)
  go_region_o
  all_goals go_wp2
  have f1 : ∀ (a : Addr) (v : Value), a.block ≠ xv → a.block ≠ ev → w1.cell? a = some v → (((w1.setCell ⟨xv, 0, none⟩ (.int .u64 0)).setCell ⟨ev, 0, none⟩ (.int .i64 er)).drew).cell? a = some v := by
    intro a v a1 a2 h
    have e1 : (⟨ev, 0, none⟩ : Addr) ≠ a := fun e => a2 (by rw [← e])
    have e2 : (⟨xv, 0, none⟩ : Addr) ≠ a := fun e => a1 (by rw [← e])
    show ((w1.setCell ⟨xv, 0, none⟩ (.int .u64 0)).setCell ⟨ev, 0, none⟩ (.int .i64 er)).cell? a = some v
    rw [World.cell?_setCell_other _ _ _ _ e1, World.cell?_setCell_other _ _ _ _ e2]; exact h
  have f2 : ∀ (a : Addr), w1.frozen? a = false → (((w1.setCell ⟨xv, 0, none⟩ (.int .u64 0)).setCell ⟨ev, 0, none⟩ (.int .i64 er)).drew).frozen? a = false := by
    intro a h
    show ((w1.setCell ⟨xv, 0, none⟩ (.int .u64 0)).setCell ⟨ev, 0, none⟩ (.int .i64 er)).frozen? a = false
    simp [go_sem, h]
  have z2 := f1 _ _ (Ne.symm d1) (Ne.symm d2) k2
  have z8 := f1 _ _ (Ne.symm d4) (Ne.symm d5) k8
  have z9 := f2 _ k9
  have z10 := f1 _ _ (Ne.symm d4) (Ne.symm d5) k10
  have z11 := f2 _ k11
  have zl := f1 _ _ n1 n2 hl
  clear f1 f2 k2 k4 k5 k6 k7 k8 k9 k10 k11 hl q2 q3
  generalize hw2 : ((w1.setCell ⟨xv, 0, none⟩ (.int .u64 0)).setCell ⟨ev, 0, none⟩ (.int .i64 er)).drew = w2 at *
  have HW2 := Go.Lib.hid hw2
  clear hw2
  have q4 : (⟨rb, ro, none⟩ : Addr) ≠ ⟨lb, 0, none⟩ := fun e => n3 (congrArg Addr.block e)
  have q5 : (⟨rb, ro, none⟩ : Addr) ≠ ⟨rv, 0, none⟩ := fun e => d6 (congrArg Addr.block e)
  go_region_o
  all_goals go_wp2
  have e1 : w.alloc (.cells #[.int .i64 er] 143) = w1 := HW1
  have e2 : ((w1.setCell ⟨xv, 0, none⟩ (.int .u64 0)).setCell ⟨ev, 0, none⟩ (.int .i64 er)).drew = w2 := HW2
  refine ⟨rfl, _, rfl, .tuple #[], ?_, rfl, rfl, ?_⟩
  · simp [results, Try.results109]
  · rw [e1, ← e2]; rfl
end Go.Proofs.Rdr

namespace Go.Proofs.Rdr
open Go Go.RowKit Go.Proofs
/-- how one is read: from a part of these bytes comes this value, and these are left -/
def HowOk (h : FuncId) (cap : Array Value) (s rest : ByteArray) (v : Value) (w0 : World) : Prop := ∀ (bp : Nat) (w : World), Below w0.heap.size w0 w → w0.heap.size ≤ bp → bp < w.heap.size → w.cell? ⟨bp, 0, none⟩ = some (.string s) → w.frozen? ⟨bp, 0, none⟩ = false →
  Calls Try.prog h (#[.pointer (some ⟨bp, 0, none⟩)] ++ cap) w fun r w' => r = .returned v ∧ Below w.heap.size (w.setCell ⟨bp, 0, none⟩ (.string rest)) w'
def ReadPost (rb ro : Nat) (rest : ByteArray) (v : Value) (w : World) (r : Ending) (w' : World) : Prop := r = .returned (.tuple #[v, .int .i64 0]) ∧ Below w.heap.size (w.setCell ⟨rb, ro, none⟩ (.string rest)) w'
/-- .. or it is thrown that it does not stand there -/
def HowLack (h : FuncId) (cap : Array Value) (s : ByteArray) (er : Int) (w0 : World) : Prop := ∀ (bp : Nat) (w : World), Below w0.heap.size w0 w → w0.heap.size ≤ bp → bp < w.heap.size → w.cell? ⟨bp, 0, none⟩ = some (.string s) → w.frozen? ⟨bp, 0, none⟩ = false →
  Calls Try.prog h (#[.pointer (some ⟨bp, 0, none⟩)] ++ cap) w fun r w' => r = .panicked [lackE er] ∧ ∃ v, Below w.heap.size (w.setCell ⟨bp, 0, none⟩ v) w'
def LackPost (rb ro : Nat) (er : Int) (z : Value) (w : World) (r : Ending) (w' : World) : Prop := r = .returned (.tuple #[z, .int .i64 er]) ∧ Below w.heap.size ((w.setCell ⟨rb, ro, none⟩ (.string ⟨#[]⟩)).setCell ⟨rb, ro + 1, none⟩ (.int .i64 er)) w'
theorem alloc_get (w : World) (o : Obj) (k : Nat) : (w.alloc o).heap[k]? = if k = w.heap.size then some o else w.heap[k]? := by
  show (w.heap.push o)[k]? = _; rw [Array.getElem?_push]
theorem chain5 (w : World) (o0 o1 o2 o3 o4 : Obj) : ∀ W, ((((w.alloc o0).alloc o1).alloc o2).alloc o3).alloc o4 = W →
    W.heap[w.heap.size]? = some o0 ∧ W.heap[w.heap.size + 1]? = some o1 ∧ W.heap[w.heap.size + 1 + 1]? = some o2 ∧ W.heap[w.heap.size + 1 + 1 + 1]? = some o3 ∧ W.heap[w.heap.size + 1 + 1 + 1 + 1]? = some o4 ∧ W.heap.size = w.heap.size + 5 := by
  rintro W rfl
  refine ⟨?_, ?_, ?_, ?_, ?_, by simp⟩ <;> (simp only [alloc_get, World.size_alloc]; repeat rw [if_neg (by omega)]) <;> first | rw [if_pos rfl] | rfl
theorem below_both {N : Nat} {w a : World} (h : Below N w a) (p : Addr) (u : Value) : Below N (w.setCell p u) (a.setCell p u) := by
  refine ⟨h.os, h.tape, h.output, by simpa [World.setCell] using h.size, fun k hk => ?_⟩
  simp only [World.setCell, Array.getElem?_modify, h.block k hk]
theorem cell_blk {w w' : World} {a : Addr} {v : Value} (hb : w'.heap[a.block]? = w.heap[a.block]?) (h : w.cell? a = some v) : w'.cell? a = some v := by
  rw [← h]; exact World.cell?_of_block (w := w) hb
theorem froz_blk {w w' : World} {a : Addr} {v : Bool} (hb : w'.heap[a.block]? = w.heap[a.block]?) (h : w.frozen? a = v) : w'.frozen? a = v := by
  rw [← h]; exact World.frozen?_of_block (w := w) hb
theorem setCell_blk {w : World} {p : Addr} {u : Value} {k : Nat} (h : p.block ≠ k) : (w.setCell p u).heap[k]? = w.heap[k]? := by
  simp only [World.setCell, Array.getElem?_modify, if_neg h]
theorem blk_setCell {w : World} {b o : Nat} {u : Value} {cs : Array Value} {t : TypeId} {fz : Nat × Nat} (h : w.heap[b]? = some (.cells cs t fz)) : (w.setCell ⟨b, o, none⟩ u).heap[b]? = some (.cells (cs.setIfInBounds o u) t fz) := by
  simp only [World.setCell, Array.getElem?_modify, h]
  rfl
theorem cell_one {w : World} {b : Nat} {v : Value} {t : TypeId} {fz : Nat × Nat} (h : w.heap[b]? = some (.cells #[v] t fz)) : w.cell? ⟨b, 0, none⟩ = some v := by simp [World.cell?, h]
theorem froz_one {w : World} {b : Nat} {v : Value} {t : TypeId} (h : w.heap[b]? = some (.cells #[v] t (0, 0))) : w.frozen? ⟨b, 0, none⟩ = false := by simp [World.frozen?, h]
set_option maxHeartbeats 2000000 in
theorem read64_ok (rb ro : Nat) (h : FuncId) (cap : Array Value) (s rest : ByteArray) (x : Int) (w : World) (hr0 : rb < w.heap.size) (h1 : w.cell? ⟨rb, ro, none⟩ = some (.string s)) (h2 : w.cell? ⟨rb, ro + 1, none⟩ = some (.int .i64 0)) (h3 : w.frozen? ⟨rb, ro, none⟩ = false)
    (he : ∀ args w, (callFunc h args).run Try.prog w = .ok (.enter h args) w) (H : HowOk h cap s rest (.int .u64 x) w) :
    Calls Try.prog 99 #[.pointer (some ⟨rb, ro, none⟩), .func (.func h) #[] cap] w (ReadPost rb ro rest (.int .u64 x) w) := by
  have hmf : ∀ (fn : Fn) (first cap : Array Value) (w : World), (Instr.makeFunc fn first cap).run Try.prog w = .ok (.func fn first cap) w := fun _ _ _ _ => rfl
  have k1 : ∀ o1 o2 o3, (((w.alloc o1).alloc o2).alloc o3).cell? ⟨rb, ro, none⟩ = some (.string s) := fun o1 o2 o3 =>
    ((((Below.refl _ w).alloc (Nat.le_refl _) o1).alloc (by simp) o2).alloc (by simp; omega) o3).cell (p := ⟨rb, ro, none⟩) hr0 |>.trans h1
  have k2 : ∀ o1 o2 o3, (((w.alloc o1).alloc o2).alloc o3).cell? ⟨rb, ro + 1, none⟩ = some (.int .i64 0) := fun o1 o2 o3 =>
    ((((Below.refl _ w).alloc (Nat.le_refl _) o1).alloc (by simp) o2).alloc (by simp; omega) o3).cell (p := ⟨rb, ro + 1, none⟩) hr0 |>.trans h2
  have HH := Go.Lib.hid H
  have HR := Go.Lib.hid hr0
  clear H hr0
  go_enter_defers Try.func99, Try.ntmps99
  go_wp2
  generalize hW : ((((w.alloc (Obj.cells #[Value.pointer (some { block := rb, off := ro })] 70)).alloc (Obj.cells #[.int .u64 0] 56)).alloc (Obj.cells #[.int .i64 0] 37)).alloc (Obj.cells #[Value.string s] 115)).alloc (Obj.cells #[Value.pointer (some { block := w.heap.size + 1 + 1 + 1, off := 0 })] 112) = W
  have hr0 : rb < w.heap.size := HR
  obtain ⟨b0, b1, b2, b3, b4, hsz⟩ := chain5 w _ _ _ _ _ W hW
  have hBW : Below w.heap.size w W := by
    rw [← hW]
    exact (((((Below.refl _ w).alloc (Nat.le_refl _) _).alloc (by simp) _).alloc (by simp; omega) _).alloc (by simp; omega) _).alloc (by simp; omega) _
  clear hW k1 k2
  have c3 : W.cell? ⟨w.heap.size + 1 + 1 + 1, 0, none⟩ = some (.string s) := cell_one b3
  refine ((HH : HowOk h cap s rest (.int .u64 x) w) (w.heap.size + 1 + 1 + 1) W hBW (by omega) (by omega) c3 (froz_one b3)).mono ?_
  rintro r w1 ⟨rfl, hB⟩
  have hk : ∀ k, k < w.heap.size + 5 → k ≠ w.heap.size + 1 + 1 + 1 → w1.heap[k]? = W.heap[k]? := fun k h1 h2 => (hB.block k (by omega)).trans (setCell_blk (Ne.symm h2))
  have d0 : w1.heap[w.heap.size]? = _ := (hk _ (by omega) (by omega)).trans b0
  have d1 : w1.heap[w.heap.size + 1]? = _ := (hk _ (by omega) (by omega)).trans b1
  have d2 : w1.heap[w.heap.size + 1 + 1]? = _ := (hk _ (by omega) (by omega)).trans b2
  have d3 : w1.heap[w.heap.size + 1 + 1 + 1]? = some (Obj.cells #[Value.string rest] 115) := by
    rw [hB.block _ (by omega), blk_setCell b3]; rfl
  have d4 : w1.heap[w.heap.size + 1 + 1 + 1 + 1]? = _ := (hk _ (by omega) (by omega)).trans b4
  have hB1 : Below w.heap.size w w1 := (hBW.setCell (p := ⟨w.heap.size + 1 + 1 + 1, 0, none⟩) (by show _ ≤ w.heap.size + 1 + 1 + 1; omega) (.string rest)).trans (hB.mono (by omega))
  clear hk hB b0 b1 b2 b3 b4 c3 hBW
  have x1 : w1.cell? ⟨w.heap.size + 1, 0, none⟩ = some (.int .u64 0) := cell_one d1
  have x2 : w1.frozen? ⟨w.heap.size + 1, 0, none⟩ = false := froz_one d1
  have x3 : w1.cell? ⟨w.heap.size + 1 + 1, 0, none⟩ = some (.int .i64 0) := cell_one d2
  have x4 : w1.frozen? ⟨w.heap.size + 1 + 1, 0, none⟩ = false := froz_one d2
  have HD := Go.Lib.hid d0
  have HD1 := Go.Lib.hid d1
  have HD2 := Go.Lib.hid d2
  have HD3 := Go.Lib.hid d3
  have HD4 := Go.Lib.hid d4
  have HZ := Go.Lib.hid hsz
  have h1 := Go.Lib.hid h1
  have h3 := Go.Lib.hid h3
  clear d0 d1 d2 d3 d4 hsz h2 hr0
  go_wp2
  have hr0 : rb < w.heap.size := HR
  have g0 := (HD : w1.heap[w.heap.size]? = _)
  have g1 := (HD1 : w1.heap[w.heap.size + 1]? = _)
  have g2 := (HD2 : w1.heap[w.heap.size + 1 + 1]? = _)
  have g3 := (HD3 : w1.heap[w.heap.size + 1 + 1 + 1]? = _)
  have g4 := (HD4 : w1.heap[w.heap.size + 1 + 1 + 1 + 1]? = _)
  clear HD HD1 HD2 HD3 HD4 HZ HR HH x1 x2 x3 x4
  generalize hw2 : (w1.setCell { block := w.heap.size + 1, off := 0 } (.int .u64 x)).setCell { block := w.heap.size + 1 + 1, off := 0 } (Value.int IntKind.i64 0) = w2
  have ho : ∀ k, k ≠ w.heap.size + 1 → k ≠ w.heap.size + 1 + 1 → w2.heap[k]? = w1.heap[k]? := fun k a1 a2 => by rw [← hw2, setCell_blk (by exact Ne.symm a2), setCell_blk (by exact Ne.symm a1)]
  have e0 := (ho _ (by omega) (by omega)).trans g0
  have e3 := (ho _ (by omega) (by omega)).trans g3
  have e4 := (ho _ (by omega) (by omega)).trans g4
  have e1 : w2.heap[w.heap.size + 1]? = some (Obj.cells #[.int .u64 x] 56) := by rw [← hw2, setCell_blk (by show w.heap.size + 1 + 1 ≠ _; omega), blk_setCell g1]; rfl
  have e2 : w2.heap[w.heap.size + 1 + 1]? = some (Obj.cells #[.int .i64 0] 37) := by rw [← hw2, blk_setCell ((setCell_blk (by show w.heap.size + 1 ≠ _; omega)).trans g2)]; rfl
  have hB2 : Below w.heap.size w w2 := by rw [← hw2]; exact (hB1.setCell (by show _ ≤ w.heap.size + 1; omega) _).setCell (by show _ ≤ w.heap.size + 1 + 1; omega) _
  have er : w2.heap[rb]? = w.heap[rb]? := hB2.block rb hr0
  clear hw2 ho g0 g1 g2 g3 g4 hB1
  refine leaves_cons (f := 109) (args := #[.pointer (some ⟨w.heap.size + 1 + 1 + 1 + 1, 0, none⟩), .pointer (some ⟨w.heap.size, 0, none⟩), .pointer (some ⟨w.heap.size + 1, 0, none⟩), .pointer (some ⟨w.heap.size + 1 + 1, 0, none⟩)]) (by simp) (by simp [go_sem]) ?_
  refine (idle64 _ _ _ _ (w.heap.size + 1 + 1 + 1) rb ro rest w2 (cell_one e4) (cell_one e0) (cell_one e3) (.string s) (cell_blk (a := ⟨rb, ro, none⟩) er h1) (froz_blk (a := ⟨rb, ro, none⟩) er h3)).mono ?_
  rintro e u' w3 ⟨rfl, rfl, rfl⟩
  have y1 : (w2.drew.setCell ⟨rb, ro, none⟩ (.string rest)).cell? ⟨w.heap.size + 1, 0, none⟩ = some (.int .u64 x) := cell_blk (w := w2) (setCell_blk (by show rb ≠ w.heap.size + 1; omega)) (cell_one e1)
  have y2 : (w2.drew.setCell ⟨rb, ro, none⟩ (.string rest)).cell? ⟨w.heap.size + 1 + 1, 0, none⟩ = some (.int .i64 0) := cell_blk (w := w2) (setCell_blk (by show rb ≠ w.heap.size + 1 + 1; omega)) (cell_one e2)
  have hB3 : Below w.heap.size (w.setCell ⟨rb, ro, none⟩ (.string rest)) (w2.drew.setCell ⟨rb, ro, none⟩ (.string rest)) := below_both hB2.drew _ _
  generalize w2.drew.setCell ⟨rb, ro, none⟩ (.string rest) = w3 at *
  clear e0 e1 e2 e3 e4 er hB2
  simp [Leaves, settle, results, Try.results99, go_sem, y1, y2]
  exact ⟨rfl, hB3⟩
end Go.Proofs.Rdr

namespace Go.Proofs.Rdr
open Go Go.RowKit Go.Proofs
set_option maxHeartbeats 2000000 in
theorem read64_lack (rb ro : Nat) (h : FuncId) (cap : Array Value) (s : ByteArray) (er : Int) (w : World) (hr0 : rb < w.heap.size) (h1 : w.cell? ⟨rb, ro, none⟩ = some (.string s)) (h2 : w.cell? ⟨rb, ro + 1, none⟩ = some (.int .i64 0)) (h3 : w.frozen? ⟨rb, ro, none⟩ = false) (h4 : w.frozen? ⟨rb, ro + 1, none⟩ = false)
    (he : ∀ args w, (callFunc h args).run Try.prog w = .ok (.enter h args) w) (H : HowLack h cap s er w) :
    Calls Try.prog 99 #[.pointer (some ⟨rb, ro, none⟩), .func (.func h) #[] cap] w (LackPost rb ro er (.int .u64 0) w) := by
  have hmf : ∀ (fn : Fn) (first cap : Array Value) (w : World), (Instr.makeFunc fn first cap).run Try.prog w = .ok (.func fn first cap) w := fun _ _ _ _ => rfl
  have k1 : ∀ o1 o2 o3, (((w.alloc o1).alloc o2).alloc o3).cell? ⟨rb, ro, none⟩ = some (.string s) := fun o1 o2 o3 =>
    ((((Below.refl _ w).alloc (Nat.le_refl _) o1).alloc (by simp) o2).alloc (by simp; omega) o3).cell (p := ⟨rb, ro, none⟩) hr0 |>.trans h1
  have k2 : ∀ o1 o2 o3, (((w.alloc o1).alloc o2).alloc o3).cell? ⟨rb, ro + 1, none⟩ = some (.int .i64 0) := fun o1 o2 o3 =>
    ((((Below.refl _ w).alloc (Nat.le_refl _) o1).alloc (by simp) o2).alloc (by simp; omega) o3).cell (p := ⟨rb, ro + 1, none⟩) hr0 |>.trans h2
  have HH := Go.Lib.hid H
  have HR := Go.Lib.hid hr0
  clear H hr0
  go_enter_defers Try.func99, Try.ntmps99
  go_wp2
  generalize hW : ((((w.alloc (Obj.cells #[Value.pointer (some { block := rb, off := ro })] 70)).alloc (Obj.cells #[.int .u64 0] 56)).alloc (Obj.cells #[.int .i64 0] 37)).alloc (Obj.cells #[Value.string s] 115)).alloc (Obj.cells #[Value.pointer (some { block := w.heap.size + 1 + 1 + 1, off := 0 })] 112) = W
  have hr0 : rb < w.heap.size := HR
  obtain ⟨b0, b1, b2, b3, b4, hsz⟩ := chain5 w _ _ _ _ _ W hW
  have hBW : Below w.heap.size w W := by
    rw [← hW]
    exact (((((Below.refl _ w).alloc (Nat.le_refl _) _).alloc (by simp) _).alloc (by simp; omega) _).alloc (by simp; omega) _).alloc (by simp; omega) _
  clear hW k1 k2
  have c3 : W.cell? ⟨w.heap.size + 1 + 1 + 1, 0, none⟩ = some (.string s) := cell_one b3
  refine ((HH : HowLack h cap s er w) (w.heap.size + 1 + 1 + 1) W hBW (by omega) (by omega) c3 (froz_one b3)).mono ?_
  rintro r w2 ⟨rfl, pv, hB⟩
  have hk : ∀ k, k < w.heap.size + 5 → k ≠ w.heap.size + 1 + 1 + 1 → w2.heap[k]? = W.heap[k]? := fun k h1 h2 => (hB.block k (by omega)).trans (setCell_blk (Ne.symm h2))
  have e0 : w2.heap[w.heap.size]? = _ := (hk _ (by omega) (by omega)).trans b0
  have e1 : w2.heap[w.heap.size + 1]? = _ := (hk _ (by omega) (by omega)).trans b1
  have e2 : w2.heap[w.heap.size + 1 + 1]? = _ := (hk _ (by omega) (by omega)).trans b2
  have hB2 : Below w.heap.size w w2 := (hBW.setCell (p := ⟨w.heap.size + 1 + 1 + 1, 0, none⟩) (by show _ ≤ w.heap.size + 1 + 1 + 1; omega) pv).trans (hB.mono (by omega))
  have hz2 : W.heap.size ≤ w2.heap.size := by have := hB.size; simpa [World.setCell] using this
  clear hk hB b0 b1 b2 b3 b4 c3 hBW
  have er1 : w2.heap[rb]? = w.heap[rb]? := hB2.block rb hr0
  refine leaves_cons (f := 109) (args := #[.pointer (some ⟨w.heap.size + 1 + 1 + 1 + 1, 0, none⟩), .pointer (some ⟨w.heap.size, 0, none⟩), .pointer (some ⟨w.heap.size + 1, 0, none⟩), .pointer (some ⟨w.heap.size + 1 + 1, 0, none⟩)]) (by simp) (by simp [go_sem]) ?_
  refine (caught64 _ _ _ _ rb ro er w2 (cell_one e0) (.int .u64 0) (.int .i64 0) (.string s) (.int .i64 0) (cell_one e1) (froz_one e1) (cell_one e2) (froz_one e2)
    (cell_blk (a := ⟨rb, ro, none⟩) er1 h1) (froz_blk (a := ⟨rb, ro, none⟩) er1 h3) (cell_blk (a := ⟨rb, ro + 1, none⟩) er1 h2) (froz_blk (a := ⟨rb, ro + 1, none⟩) er1 h4)
    (by omega) (by omega) (by omega) (by omega) (by omega) (by omega) (by omega) (by omega) (by omega) (by omega)).mono ?_
  rintro e u' w3 ⟨rfl, rfl, hw3⟩
  have n1 : rb ≠ w.heap.size + 1 := by omega
  have n2 : rb ≠ w.heap.size + 1 + 1 := by omega
  have lt1 : w.heap.size + 1 < w2.heap.size := by omega
  have lt2 : w.heap.size + 1 + 1 < w2.heap.size := by omega
  have y1 : w3.cell? ⟨w.heap.size + 1, 0, none⟩ = some (.int .u64 0) := by
    have z : w3.heap[w.heap.size + 1]? = some (Obj.cells #[.int .u64 0] 56) := by
      rw [hw3]
      show ((((((w2.alloc _).setCell _ _).setCell _ _).setCell _ _).setCell _ _)).heap[_]? = _
      rw [setCell_blk (by exact n1), setCell_blk (by exact n1), setCell_blk (by show w.heap.size + 1 + 1 ≠ w.heap.size + 1; omega), blk_setCell (by rw [alloc_get, if_neg (by omega)]; exact e1)]
      rfl
    exact cell_one z
  have y2 : w3.cell? ⟨w.heap.size + 1 + 1, 0, none⟩ = some (.int .i64 er) := by
    have z : w3.heap[w.heap.size + 1 + 1]? = some (Obj.cells #[.int .i64 er] 37) := by
      rw [hw3]
      show ((((((w2.alloc _).setCell _ _).setCell _ _).setCell _ _).setCell _ _)).heap[_]? = _
      rw [setCell_blk (by exact n2), setCell_blk (by exact n2), blk_setCell ((setCell_blk (by show w.heap.size + 1 ≠ w.heap.size + 1 + 1; omega)).trans (by rw [alloc_get, if_neg (by omega)]; exact e2))]
      rfl
    exact cell_one z
  have hB3 : Below w.heap.size ((w.setCell ⟨rb, ro, none⟩ (.string ⟨#[]⟩)).setCell ⟨rb, ro + 1, none⟩ (.int .i64 er)) w3 := by
    rw [hw3]
    exact (below_both (below_both (((((hB2.alloc (by omega) _).setCell (by show w.heap.size ≤ w.heap.size + 1; omega) _).setCell (by show w.heap.size ≤ w.heap.size + 1 + 1; omega) _).drew)) _ _) _ _).drew
  clear hw3 e0 e1 e2 er1 hB2 hz2 lt1 lt2 n1 n2 h1 h2 h3 h4 hsz
  simp [Leaves, settle, results, Try.results99, go_sem, y1, y2]
  exact ⟨rfl, hB3⟩
set_option maxHeartbeats 2000000 in
theorem read64_wrong (rb ro : Nat) (how : Value) (er : Int) (w : World) (hr0 : rb < w.heap.size) (h2 : w.cell? ⟨rb, ro + 1, none⟩ = some (.int .i64 er)) (hne : er ≠ 0) :
    Calls Try.prog 99 #[.pointer (some ⟨rb, ro, none⟩), how] w fun r w' => r = .returned (.tuple #[.int .u64 0, .int .i64 er]) ∧ Below w.heap.size w w' := by
  have mixed := mixed
  have k2 : ∀ o1 o2 o3, (((w.alloc o1).alloc o2).alloc o3).cell? ⟨rb, ro + 1, none⟩ = some (.int .i64 er) := fun o1 o2 o3 =>
    ((((Below.refl _ w).alloc (Nat.le_refl _) o1).alloc (by simp) o2).alloc (by simp; omega) o3).cell (p := ⟨rb, ro + 1, none⟩) hr0 |>.trans h2
  have q1 : (⟨w.heap.size + 1, 0, none⟩ : Addr) ≠ ⟨rb, ro + 1, none⟩ := by intro e; have e := congrArg Addr.block e; simp at e; omega
  have hbne : (er != 0) = true := by simpa using hne
  clear h2 hr0 hne
  go_enter_defers Try.func99, Try.ntmps99
  go_wp2
  go_region_o
  all_goals go_wp2
  simp [bodyPostD, Leaves, results, Try.results99, go_sem]
  exact ((((Below.refl _ w).alloc (Nat.le_refl _) _).alloc (by simp) _).alloc (by simp; omega) _).drew
theorem read64_nil (how : Value) (w : World) :
    Calls Try.prog 99 #[.pointer none, how] w fun r w' => r = .returned (.tuple #[.int .u64 0, .int .i64 2]) ∧ Below w.heap.size w w' := by
  go_enter_defers Try.func99, Try.ntmps99
  go_wp2
  simp [bodyPostD, Leaves, results, Try.results99, go_sem]
  exact (((Below.refl _ w).alloc (Nat.le_refl _) _).alloc (by simp) _).alloc (by simp; omega) _
end Go.Proofs.Rdr
