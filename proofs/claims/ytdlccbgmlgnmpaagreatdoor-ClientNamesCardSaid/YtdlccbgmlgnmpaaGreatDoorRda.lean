/- strings.Builder: its check of copies, and its text, wherever the Builder lies. -/
import Derived.WalkKit
import Derived.OwnWalk
import Derived.Lib.Builder
import Derived.Lib.UnsafeStr
import Derived.Lib.Walk
import Derived.Laws.Externs
import Derived.Shelf.RegionOpenPlain
import Derived.Test.YtdlccbgmlgnmpaaGreatDoorChecked
import Derived.Shelf.Strings.Builder1
import Derived.Shelf.Strings.BuilderF
import Derived.Shelf.Strings.BuilderK
import Derived.WalkSmall
import Derived.WalkLawsBesides
import Derived.Defers
import Derived.Recover
import Derived.Below
import Derived.Laws.IdiomStrings
import Derived.Laws.Bits64
import Derived.Laws.Bits64b
import Derived.Lib.Hide

namespace Go.Proofs.Bld
open Go Go.RowKit Go.Proofs

theorem noEsc : ∀ (args : Array Value) (w : World), (callFunc 359 args).run Tryz.prog w = ((Extern.AbiNoEscape.same args).run Tryz.prog w).andThen fun v w' => .ok (.value v) w' :=
  fun args w => run_callFunc_extern Tryz.func359 (by kernel_rfl) (by kernel_rfl) (by kernel_rfl) (e := Extern.AbiNoEscape.same) (by kernel_rfl) args w
theorem infoB : ∃ j, Tryz.prog.info? 346 = some j ∧ j.size = 2 := by
  have h : (Tryz.prog.info? 346).map (·.size) = some 2 := by kernel_rfl
  obtain ⟨j, hj, hs⟩ := Option.map_eq_some_iff.1 h
  exact ⟨j, hj, hs⟩

set_option maxHeartbeats 1000000 in
set_option maxRecDepth 100000 in
theorem cc_used (b o : Nat) (w : World) (h0 : w.cell? ⟨b, o, none⟩ = some (.pointer (some ⟨b, o, none⟩))) :
    Calls Tryz.prog 322 #[.pointer (some ⟨b, o, none⟩)] w fun e w' => e = .returned (.tuple #[]) ∧ w' = w := by
  obtain ⟨j, hj, _⟩ := infoB
  go_enter Tryz.func322, Tryz.ntmps322
  go_wp2
  rw [Lib.run_neq_ptr_same w _ Tryz.underlying344 hj]
  go_wp2
  go_end0
  exact ⟨rfl, rfl⟩

set_option maxHeartbeats 1000000 in
set_option maxRecDepth 100000 in
theorem cc_fresh (b o : Nat) (T : TypeId) (cells : Nat) (w : World) (h0 : w.cell? ⟨b, o, none⟩ = some (.pointer none)) (hsh : w.shape? b = some (T, cells)) (hoff : o < cells)
    (hl : liesAt Tryz.prog Tryz.prog.depth T (cells / Tryz.prog.cellsOf T) o 346 1 = true) (hfz : w.frozen? ⟨b, o, none⟩ = false) :
    Calls Tryz.prog 322 #[.pointer (some ⟨b, o, none⟩)] w fun e w' => e = .returned (.tuple #[]) ∧ w' = w.setCell ⟨b, o, none⟩ (.pointer (some ⟨b, o, none⟩)) := by
  obtain ⟨j, hj, hjs⟩ := infoB
  go_enter Tryz.func322, Tryz.ntmps322
  go_wp2
  rw [Lib.run_to_unsafe w ⟨b, o, none⟩ Tryz.underlying344 Tryz.underlying435 hj (by rw [hjs]; decide) hsh hoff]
  simp only [Result.andThen]
  rw [Oper.upon_value]
  go_wp2
  rw [noEsc]
  rw [Lib.run_noEscape]
  simp only [Result.andThen]
  rw [Oper.upon_value]
  go_wp2
  rw [Lib.run_from_unsafe w ⟨b, o, none⟩ Tryz.underlying435 Tryz.underlying344 hj hsh hl]
  simp only [Result.andThen]
  rw [Oper.upon_value]
  go_wp2
  go_end0
  exact ⟨rfl, rfl⟩
end Go.Proofs.Bld

namespace Go.Proofs.Bld
open Go Go.RowKit Go.Proofs
theorem liesAt_bytes_off {P : Program} {e : TypeId} (hc : P.cellsOf e = 1) (count off n : Nat) (hn : off + n ≤ count) : liesAt P P.depth e count off e n = true := by
  have hd : P.depth = (2 * (P.types.size + Made.depth) + 1) + 1 := rfl
  rw [hd]
  simp only [liesAt, Bool.or_eq_true]
  left
  rw [hd]
  simp [rowAt, hc, hn, sameLayout, Nat.mod_one]
theorem run_unsafeString_off {P : Program} (w : World) (pt it ty e : TypeId) (hp : P.underlying pt = some (.pointer e)) (hc : P.cellsOf e = 1) (g o cells : Nat) (hsh : w.shape? g = some (e, cells)) (l : List UInt8) (h0 : l ≠ []) (hn : o + l.length ≤ cells) (h63 : l.length ≤ 9223372036854775807)
    (hcell : ∀ (j : Nat) (x : UInt8), l[j]? = some x → w.cell? ((⟨g, o, none⟩ : Addr).add j) = some (.int .u8 x.toNat)) :
    (Builtin.unsafeString_ #[pt, it] ty #[.pointer (some ⟨g, o, none⟩), .int .i64 l.length]).run P w = .ok (.string ⟨l.toArray⟩) (w.freeze ⟨g, o, none⟩ l.length) := by
  have hl : l.length ≠ 0 := by simpa using h0
  have hlb := Lib.run_loadBytes (P := P) w l ⟨g, o, none⟩ .empty hcell
  have hlies := liesAt_bytes_off (P := P) hc (cells / P.cellsOf e) o l.length (by rw [hc]; simpa using hn)
  have h63' : ¬ (9223372036854775807 : Int) < (l.length : Int) := by omega
  have hmax : IntKind.i64.max = 9223372036854775807 := rfl
  have hneg : ¬ ((l.length : Int) < 0) := by omega
  have he0 : ByteArray.empty.data = #[] := rfl
  rw [he0] at hlb
  change Sem.run P ((asInt (.int .i64 l.length)) >>= _) w = _
  simp [asInt, asIntOf, hmax, hneg, h63', h0, variablesAt, hsh, elemOf, run_underlying hp, hlies, hlb]

theorem mixed : Tryz.prog.follows .mixedOrders = true := by kernel_rfl
set_option maxHeartbeats 2000000 in
set_option maxRecDepth 100000 in
theorem str_some (b o g p cap cells : Nat) (l : List UInt8) (w : World) (h1 : w.cell? ⟨b, o + 1, none⟩ = some (.slice (some ⟨g, p, none⟩) l.length cap)) (h0 : l ≠ []) (hcap : cap ≠ 0) (hsh : w.shape? g = some (5, cells)) (hn : p + l.length ≤ cells) (h63 : l.length ≤ 9223372036854775807)
    (hcell : ∀ (j : Nat) (x : UInt8), l[j]? = some x → w.cell? ((⟨g, p, none⟩ : Addr).add j) = some (.int .u8 x.toNat)) :
    Calls Tryz.prog 270 #[.pointer (some ⟨b, o, none⟩)] w fun e w' => e = .returned (.string ⟨l.toArray⟩) ∧ w' = w.drew.freeze ⟨g, p, none⟩ l.length := by
  have c1 : w.drew.cell? ⟨b, o + 1, none⟩ = some (.slice (some ⟨g, p, none⟩) l.length cap) := h1
  have hSD : ∀ ts ty, (Builtin.unsafeSliceData_ ts ty #[.slice (some ⟨g, p, none⟩) l.length cap]).run Tryz.prog w.drew = .ok (.pointer (some ⟨g, p, none⟩)) w.drew := fun ts ty => Lib.run_unsafeSliceData_row _ _ _ _ _ _ hcap
  have hU8 : Tryz.prog.cellsOf 5 = 1 := by kernel_rfl
  have hUS : ∀ it ty, (Builtin.unsafeString_ #[405, it] ty #[.pointer (some ⟨g, p, none⟩), .int .i64 l.length]).run Tryz.prog w.drew = .ok (.string ⟨l.toArray⟩) (w.drew.freeze ⟨g, p, none⟩ l.length) := fun it ty =>
    run_unsafeString_off w.drew 405 it ty 5 Tryz.underlying405 hU8 g p cells hsh l h0 hn h63 hcell
  have mixed := mixed
  go_enter Tryz.func270, Tryz.ntmps270
  go_wp2
  go_region_o
  all_goals (go_wp2; go_ret; exact ⟨rfl, rfl⟩)
set_option maxHeartbeats 2000000 in
set_option maxRecDepth 100000 in
theorem str_nil (b o c : Nat) (w : World) (h1 : w.cell? ⟨b, o + 1, none⟩ = some (.slice none 0 c)) :
    Calls Tryz.prog 270 #[.pointer (some ⟨b, o, none⟩)] w fun e w' => e = .returned (.string ⟨#[]⟩) ∧ w' = w.drew := by
  have c1 : w.drew.cell? ⟨b, o + 1, none⟩ = some (.slice none 0 c) := h1
  have hSD : ∀ ts ty, (Builtin.unsafeSliceData_ ts ty #[.slice none 0 c]).run Tryz.prog w.drew = .ok (.pointer none) w.drew := fun ts ty => rfl
  have hUS : ∀ pt it ty, (Builtin.unsafeString_ #[pt, it] ty #[.pointer none, .int .i64 0]).run Tryz.prog w.drew = .ok (.string .empty) w.drew := fun pt it ty => Lib.run_unsafeString_none _ _ _ _ _
  have mixed := mixed
  go_enter Tryz.func270, Tryz.ntmps270
  go_wp2
  go_region_o
  all_goals (go_wp2; go_ret; exact ⟨rfl, rfl⟩)
end Go.Proofs.Bld

namespace Go.Proofs
open Go.Shelf
def Tryz.lays167_ren : Go.Shelf.Ren := ⟨fun | 167 => 269 | 240 => 322 | 276 => 359 | n => n, fun | 0 => 0 | 4 => 4 | 5 => 5 | 9 => 9 | 20 => 20 | 37 => 264 | 70 => 344 | 72 => 346 | 75 => 348 | 80 => 352 | 164 => 435 | n => n, fun | n => n⟩
theorem Tryz.lays167 : Go.Proofs.Lays.n167 Tryz.prog Tryz.lays167_ren := {
  mixed := by kernel_rfl
  f167 := Tryz.func269.trans (congrArg some (by kernel_rfl))
  f240 := Tryz.func322.trans (congrArg some (by kernel_rfl))
  f276 := Tryz.func359.trans (congrArg some (by kernel_rfl))
  t0 := Tryz.underlying0
  a0 := Tryz.isAgg0
  z0 := Tryz.sizeOf0
  v0 := Tryz.zeroValue0
  t4 := Tryz.underlying4
  a4 := Tryz.isAgg4
  z4 := Tryz.sizeOf4
  v4 := Tryz.zeroValue4
  t5 := Tryz.underlying5
  a5 := Tryz.isAgg5
  z5 := Tryz.sizeOf5
  v5 := Tryz.zeroValue5
  t9 := Tryz.underlying9
  a9 := Tryz.isAgg9
  z9 := Tryz.sizeOf9
  v9 := Tryz.zeroValue9
  t20 := Tryz.underlying20
  a20 := Tryz.isAgg20
  z20 := Tryz.sizeOf20
  v20 := Tryz.zeroValue20
  t37 := Tryz.underlying264
  a37 := Tryz.isAgg264
  z37 := Tryz.sizeOf264
  v37 := Tryz.zeroValue264
  t70 := Tryz.underlying344
  a70 := Tryz.isAgg344
  z70 := Tryz.sizeOf344
  v70 := Tryz.zeroValue344
  t72 := Tryz.underlying346
  a72 := Tryz.isAgg346
  z72 := Tryz.sizeOf346
  v72 := Tryz.zeroValue346
  t75 := Tryz.underlying348
  a75 := Tryz.isAgg348
  z75 := Tryz.sizeOf348
  v75 := Tryz.zeroValue348
  t164 := Tryz.underlying435
  a164 := Tryz.isAgg435
  z164 := Tryz.sizeOf435
  v164 := Tryz.zeroValue435 }
theorem Tryz.Builder_Extra_167 : Builder.Extra Tryz.prog Tryz.lays167_ren := {
  sizeBuilder := by kernel_rfl
  liesBuilder := by kernel_rfl
  t5 := Tryz.underlying5
  a5 := Tryz.isAgg5
  z5 := Tryz.sizeOf5
  v5 := Tryz.zeroValue5
  infoByte := by kernel_rfl
  cellsByte := by kernel_rfl
  sizeByte := by kernel_rfl
  neB5 := by decide }
open Go.RowKit in
theorem Tryz.Builder_WriteByte_k (B b : Nat) (bs : List Value) (c : Int) (w : World) (h : Lib.IsBuilderF 346 5 B b bs w) (hlen : bs.length + 1 ≤ 140737488355328) (hBw : B ≤ w.heap.size) :
    Calls Tryz.prog 269 #[.pointer (some ⟨b, 0, none⟩), .int .u8 c] w fun e w' => e = .returned .nilIface ∧ (Lib.BuilderAtF 346 5 B b (.pointer (some ⟨b, 0, none⟩)) (bs ++ [.int .u8 c]) w' ∧ Below B w w' ∧ Lib.OthersKept 5 (some b) w w') := Any.Builder_WriteByte_k Tryz.lays167 Tryz.Builder_Extra_167 B b bs c w h hlen hBw
def Tryz.lays166_ren : Go.Shelf.Ren := ⟨fun | 166 => 268 | 240 => 322 | 276 => 359 | n => n, fun | 0 => 0 | 3 => 3 | 4 => 4 | 5 => 5 | 9 => 9 | 20 => 20 | 37 => 264 | 70 => 344 | 72 => 346 | 75 => 348 | 80 => 352 | 164 => 435 | n => n, fun | n => n⟩
theorem Tryz.lays166 : Go.Proofs.Lays.n166 Tryz.prog Tryz.lays166_ren := {
  mixed := by kernel_rfl
  f166 := Tryz.func268.trans (congrArg some (by kernel_rfl))
  f240 := Tryz.func322.trans (congrArg some (by kernel_rfl))
  f276 := Tryz.func359.trans (congrArg some (by kernel_rfl))
  t0 := Tryz.underlying0
  a0 := Tryz.isAgg0
  z0 := Tryz.sizeOf0
  v0 := Tryz.zeroValue0
  t3 := Tryz.underlying3
  a3 := Tryz.isAgg3
  z3 := Tryz.sizeOf3
  v3 := Tryz.zeroValue3
  t4 := Tryz.underlying4
  a4 := Tryz.isAgg4
  z4 := Tryz.sizeOf4
  v4 := Tryz.zeroValue4
  t9 := Tryz.underlying9
  a9 := Tryz.isAgg9
  z9 := Tryz.sizeOf9
  v9 := Tryz.zeroValue9
  t20 := Tryz.underlying20
  a20 := Tryz.isAgg20
  z20 := Tryz.sizeOf20
  v20 := Tryz.zeroValue20
  t37 := Tryz.underlying264
  a37 := Tryz.isAgg264
  z37 := Tryz.sizeOf264
  v37 := Tryz.zeroValue264
  t70 := Tryz.underlying344
  a70 := Tryz.isAgg344
  z70 := Tryz.sizeOf344
  v70 := Tryz.zeroValue344
  t72 := Tryz.underlying346
  a72 := Tryz.isAgg346
  z72 := Tryz.sizeOf346
  v72 := Tryz.zeroValue346
  t75 := Tryz.underlying348
  a75 := Tryz.isAgg348
  z75 := Tryz.sizeOf348
  v75 := Tryz.zeroValue348
  t164 := Tryz.underlying435
  a164 := Tryz.isAgg435
  z164 := Tryz.sizeOf435
  v164 := Tryz.zeroValue435 }
theorem Tryz.Builder_Extra_166 : Builder.Extra Tryz.prog Tryz.lays166_ren := {
  sizeBuilder := by kernel_rfl
  liesBuilder := by kernel_rfl
  t5 := Tryz.underlying5
  a5 := Tryz.isAgg5
  z5 := Tryz.sizeOf5
  v5 := Tryz.zeroValue5
  infoByte := by kernel_rfl
  cellsByte := by kernel_rfl
  sizeByte := by kernel_rfl
  neB5 := by decide }
open Go.RowKit in
theorem Tryz.Builder_WriteString_k (B b : Nat) (bs : List Value) (s : ByteArray) (w : World) (h : Lib.IsBuilderF 346 5 B b bs w) (hlen : bs.length + s.size ≤ 140737488355328) (hBw : B ≤ w.heap.size) :
    Calls Tryz.prog 268 #[.pointer (some ⟨b, 0, none⟩), .string s] w fun e w' => e = .returned (.tuple #[.int .i64 s.size, .nilIface]) ∧ (Lib.BuilderAtF 346 5 B b (.pointer (some ⟨b, 0, none⟩)) (bs ++ Lib.strCells s) w' ∧ Below B w w' ∧ Lib.OthersKept 5 (some b) w w') := Any.Builder_WriteString_k Tryz.lays166 Tryz.Builder_Extra_166 B b bs s w h hlen hBw
def Tryz.lays169_ren : Go.Shelf.Ren := ⟨fun | 169 => 270 | n => n, fun | 0 => 0 | 3 => 3 | 5 => 5 | 9 => 9 | 37 => 264 | 70 => 344 | 72 => 346 | 127 => 405 | n => n, fun | n => n⟩
theorem Tryz.lays169 : Go.Proofs.Lays.n169 Tryz.prog Tryz.lays169_ren := {
  mixed := by kernel_rfl
  f169 := Tryz.func270.trans (congrArg some (by kernel_rfl))
  t0 := Tryz.underlying0
  a0 := Tryz.isAgg0
  z0 := Tryz.sizeOf0
  v0 := Tryz.zeroValue0
  t3 := Tryz.underlying3
  a3 := Tryz.isAgg3
  z3 := Tryz.sizeOf3
  v3 := Tryz.zeroValue3
  t9 := Tryz.underlying9
  a9 := Tryz.isAgg9
  z9 := Tryz.sizeOf9
  v9 := Tryz.zeroValue9
  t37 := Tryz.underlying264
  a37 := Tryz.isAgg264
  z37 := Tryz.sizeOf264
  v37 := Tryz.zeroValue264
  t70 := Tryz.underlying344
  a70 := Tryz.isAgg344
  z70 := Tryz.sizeOf344
  v70 := Tryz.zeroValue344
  t72 := Tryz.underlying346
  a72 := Tryz.isAgg346
  z72 := Tryz.sizeOf346
  v72 := Tryz.zeroValue346
  t127 := Tryz.underlying405
  a127 := Tryz.isAgg405
  z127 := Tryz.sizeOf405
  v127 := Tryz.zeroValue405 }
theorem Tryz.Builder_Extra_169 : Builder.Extra Tryz.prog Tryz.lays169_ren := {
  sizeBuilder := by kernel_rfl
  liesBuilder := by kernel_rfl
  t5 := Tryz.underlying5
  a5 := Tryz.isAgg5
  z5 := Tryz.sizeOf5
  v5 := Tryz.zeroValue5
  infoByte := by kernel_rfl
  cellsByte := by kernel_rfl
  sizeByte := by kernel_rfl
  neB5 := by decide }
open Go.RowKit in
theorem Tryz.Builder_String_any_k (B b : Nat) (l : List UInt8) (w : World) (h : Lib.IsBuilderF 346 5 B b (Lib.byteCells l) w) (hBw : B ≤ w.heap.size) :
    Calls Tryz.prog 270 #[.pointer (some ⟨b, 0, none⟩)] w fun e w' => e = .returned (.string ⟨l.toArray⟩) ∧ (Lib.IsBuilderF 346 5 B b (Lib.byteCells l) w' ∧ Below B w w' ∧ Lib.OthersKept 5 (some b) w w') := Any.Builder_String_any_k Tryz.lays169 Tryz.Builder_Extra_169 B b l w h hBw
end Go.Proofs

namespace Go.Proofs.Rdr
open Go Go.RowKit Go.Proofs
def lackE (e : Int) : PanicEntry := { v := .iface 393 (.agg #[.int .i64 e]), recovered := false }
theorem need_ok (e : Int) (w : World) : Calls Tryz.prog 232 #[.bool true, .int .i64 e] w fun r w' => r = .returned (.tuple #[]) ∧ w' = w := by
  go_enter Tryz.func232, Tryz.ntmps232
  go_wp2
  go_end0
  exact ⟨rfl, rfl⟩
theorem need_no (e : Int) (w : World) : Calls Tryz.prog 232 #[.bool false, .int .i64 e] w fun r w' => r = .panicked [lackE e] ∧ w' = w := by
  go_enter Tryz.func232, Tryz.ntmps232
  go_wp2
  exact ⟨rfl, rfl, rfl⟩
set_option maxHeartbeats 1000000 in
theorem take_ok (bp n : Nat) (s : ByteArray) (w : World) (hc : w.cell? ⟨bp, 0, none⟩ = some (.string s)) (hz : w.frozen? ⟨bp, 0, none⟩ = false) (hn : n ≤ s.size) (hs : s.size < 9223372036854775808) :
    Calls Tryz.prog 300 #[.pointer (some ⟨bp, 0, none⟩), .int .i64 n] w fun r w' => r = .returned (.string (s.extract 0 n)) ∧ w' = w.setCell ⟨bp, 0, none⟩ (.string (s.extract n s.size)) := by
  go_enter Tryz.func300, Tryz.ntmps300
  go_wp2_with (go_at_call 232; refine (need_ok _ _).mono ?_; rintro e w' ⟨rfl, rfl⟩)
  go_ret
  exact ⟨rfl, rfl⟩
set_option maxHeartbeats 1000000 in
theorem take_short (bp n : Nat) (s : ByteArray) (w : World) (hc : w.cell? ⟨bp, 0, none⟩ = some (.string s)) (hn : s.size < n) (hs : s.size < 9223372036854775808) :
    Calls Tryz.prog 300 #[.pointer (some ⟨bp, 0, none⟩), .int .i64 n] w fun r w' => r = .panicked [lackE 8] ∧ w' = w := by
  have hle : decide (n ≤ s.size) = false := by simp; omega
  go_enter Tryz.func300, Tryz.ntmps300
  go_wp2_with (go_at_call 232; refine (need_no _ _).mono ?_; rintro e w' ⟨rfl, rfl⟩)
  exact ⟨rfl, rfl, rfl⟩
end Go.Proofs.Rdr

namespace Go.Proofs.Rdr
open Go Go.RowKit Go.Proofs
/-- the highest byte first -/
def be (l : List UInt8) : Nat := l.foldl (fun a b => a * 256 + b.toNat) 0
theorem be_snoc (l : List UInt8) (b : UInt8) : be (l ++ [b]) = be l * 256 + b.toNat := by unfold be; rw [List.foldl_append]; rfl
theorem be_go : ∀ (l : List UInt8) (a n : Nat), a < 256 ^ n → l.foldl (fun a b => a * 256 + b.toNat) a < 256 ^ (n + l.length) := by
  intro l
  induction l with
  | nil => intro a n h; exact h
  | cons b l ih =>
    intro a n h
    have hb := b.toNat_lt
    have := ih (a * 256 + b.toNat) (n + 1) (by rw [Nat.pow_succ]; omega)
    rw [List.length_cons, show n + (l.length + 1) = n + 1 + l.length by omega]
    exact this
theorem be_lt (l : List UInt8) : be l < 256 ^ l.length := by
  have := be_go l 0 0 (by decide)
  rw [Nat.zero_add] at this
  exact this
theorem be_lt8 (l : List UInt8) (h : l.length ≤ 7) : be l < 72057594037927936 := Nat.lt_of_lt_of_le (be_lt l) (Nat.pow_le_pow_right (by decide) h : 256 ^ l.length ≤ 256 ^ 7)
theorem or_byte (a b : Nat) (hb : b < 256) : (a * 256) ||| b = a * 256 + b := by
  have := Nat.two_pow_add_eq_or_of_lt (i := 8) (b := b) hb a
  rw [Nat.mul_comm a 256]
  exact this.symm
theorem bytesRow_get (s : ByteArray) (cap k : Nat) (hk : k < s.size) : (bytesRow s cap)[k]? = some (.int .u8 (s[k].toNat : Int)) := by
  unfold bytesRow
  have hs : k < (s.data.map (fun b => Value.int .u8 (b.toNat : Int))).size := by simpa using hk
  rw [Array.getElem?_append_left hs]
  simp [Array.getElem?_map]
  exact ⟨s[k], by rw [Array.getElem?_eq_getElem (by simpa using hk)]; rfl, rfl⟩
def Num (bp : Nat) (v : Value) (x : Nat) (rest : ByteArray) (w : World) (r : Ending) (w' : World) : Prop := r = .returned (.int .u64 x) ∧ Below w.heap.size (w.setCell ⟨bp, 0, none⟩ v) w'
theorem number_ok (bp n : Nat) (s : ByteArray) (w : World) (hc : w.cell? ⟨bp, 0, none⟩ = some (.string s)) (hz : w.frozen? ⟨bp, 0, none⟩ = false) (hn : n ≤ s.size) (hs : s.size < 9223372036854775808) (h8 : n ≤ 8) :
    Calls Tryz.prog 228 #[.pointer (some ⟨bp, 0, none⟩), .int .i64 n] w (Num bp (.string (s.extract n s.size)) (be (s.extract 0 n).data.toList) (s.extract n s.size) w) := by
  have hconv : ∀ (w : World) (s : ByteArray), (convert 9 264 (.string s)).run Tryz.prog w = .ok (.slice (some ⟨w.heap.size, 0, none⟩) s.size (grownCap w s.size 0 5))
      (w.drew.alloc (.cells (bytesRow s (grownCap w s.size 0 5)) 5 ((bytesRow s (grownCap w s.size 0 5)).size, (bytesRow s (grownCap w s.size 0 5)).size + 1))) := fun w s =>
    run_bytes_of_string w 9 264 5 s Tryz.underlying9 Tryz.underlying264 Tryz.underlying5
  generalize hx : s.extract 0 n = x
  have hxs : n = x.size := by rw [← hx, ByteArray.size_extract]; omega
  have T := take_ok bp n s w hc hz hn hs
  rw [hx] at T
  generalize hw1 : w.setCell ⟨bp, 0, none⟩ (.string (s.extract n s.size)) = w1 at T
  generalize s.extract n s.size = rest at *
  subst hxs
  have HW := Go.Lib.hid hw1
  clear hx hw1 hc hz hn hs
  go_enter Tryz.func228, Tryz.ntmps228
  go_wp2_with (go_at_call 300; refine T.mono ?_; rintro e w' ⟨rfl, hw'⟩; obtain rfl : w1 = w' := hw'.symm)
  generalize hrow : (Obj.cells (bytesRow x (grownCap _ x.size 0 5)) 5 ((bytesRow x (grownCap _ x.size 0 5)).size, (bytesRow x (grownCap _ x.size 0 5)).size + 1)) = row
  have HB : Hid (∀ k (hk : k < x.size), (w1.alloc row).drew.cell? ⟨w1.heap.size, k, none⟩ = some (.int .u8 (x[k].toNat : Int))) := Go.Lib.hid fun k hk => by
    have h1 : (w1.alloc row).drew.heap[w1.heap.size]? = some row := by
      show (w1.heap.push row)[w1.heap.size]? = _; simp
    rw [← hrow] at h1
    have h2 := bytesRow_get x (grownCap w1 x.size 0 5) k hk
    simp only [World.cell?, ← hrow, h1, h2]
    rfl
  clear hrow hconv
  go_loop [5, 13] (fun v i => ∃ k : Nat, k ≤ x.size ∧ i = .int .i64 k ∧ v = .int .u64 (be (x.data.toList.take k) : Nat)) (fun _ i => x.size - (intOf i).toNat)
  case atStart => exact ⟨0, Nat.zero_le _, rfl, rfl⟩
  case round =>
    obtain ⟨k, hk, rfl, rfl⟩ := hrel
    by_cases hlt : k < x.size
    · have hbk := HB.out k hlt
      have h7 : be (x.data.toList.take k) < 72057594037927936 := be_lt8 _ (by simp; omega)
      generalize hb : be (x.data.toList.take k) = a at *
      go_wp2
      refine ⟨⟨k + 1, by omega, by go_num, ?_⟩, by simp [intOf]; omega⟩
      have hb8 := x[k].toNat_lt
      have ht : List.take (k + 1) x.data.toList = List.take k x.data.toList ++ [x[k]] := by
        rw [List.take_succ_eq_append_getElem (by simpa using hlt)]; rfl
      have e1 : IntKind.u64.wrap ((x[k].toNat : Nat) : Int) = ((x[k].toNat : Nat) : Int) := by rw [IntKind.wrap_u64]; omega
      have e2 : ((a : Int) * 256) = ((a * 256 : Nat) : Int) := by omega
      rw [ht, be_snoc, hb, e1, e2, bits_or_u64_nat _ _ (by omega) (by omega), or_byte _ _ hb8]
    · go_wp2
      go_ret
      have hkk : k = x.size := by omega
      refine ⟨?_, ?_⟩
      · rw [hkk, List.take_of_length_le (by simp)]; rfl
      · have hw : w.setCell ⟨bp, 0, none⟩ (.string rest) = w1 := HW
        rw [hw]
        have hsz : w.heap.size ≤ w1.heap.size := by rw [← hw]; simp [World.setCell]
        exact ((Below.refl _ w1).alloc hsz row).drew
theorem number_short (bp n : Nat) (s : ByteArray) (w : World) (hc : w.cell? ⟨bp, 0, none⟩ = some (.string s)) (hn : s.size < n) (hs : s.size < 9223372036854775808) :
    Calls Tryz.prog 228 #[.pointer (some ⟨bp, 0, none⟩), .int .i64 n] w fun r w' => r = .panicked [lackE 8] ∧ w' = w := by
  have T := take_short bp n s w hc hn hs
  clear hc hn hs
  go_enter Tryz.func228, Tryz.ntmps228
  go_wp2_with (go_at_call 300; refine T.mono ?_; rintro e w' ⟨rfl, rfl⟩)
  exact ⟨rfl, rfl, rfl⟩
end Go.Proofs.Rdr

namespace Go.Proofs.Rdr
open Go Go.RowKit Go.Proofs
theorem mixed : Tryz.prog.follows .mixedOrders = true := by kernel_rfl
end Go.Proofs.Rdr

namespace Go.Proofs.Rdr
open Go Go.RowKit Go.Proofs
/-- how one is read: from a part of these bytes comes this value, and these are left -/
def HowOk (h : FuncId) (cap : Array Value) (s rest : ByteArray) (v : Value) (w0 : World) : Prop := ∀ (bp : Nat) (w : World), Below w0.heap.size w0 w → w0.heap.size ≤ bp → bp < w.heap.size → w.cell? ⟨bp, 0, none⟩ = some (.string s) → w.frozen? ⟨bp, 0, none⟩ = false →
  Calls Tryz.prog h (#[.pointer (some ⟨bp, 0, none⟩)] ++ cap) w fun r w' => r = .returned v ∧ Below w.heap.size (w.setCell ⟨bp, 0, none⟩ (.string rest)) w'
def ReadPost (rb ro : Nat) (rest : ByteArray) (v : Value) (w : World) (r : Ending) (w' : World) : Prop := r = .returned (.tuple #[v, .int .i64 0]) ∧ Below w.heap.size (w.setCell ⟨rb, ro, none⟩ (.string rest)) w'
/-- .. or it is thrown that it does not stand there -/
def HowLack (h : FuncId) (cap : Array Value) (s : ByteArray) (er : Int) (w0 : World) : Prop := ∀ (bp : Nat) (w : World), Below w0.heap.size w0 w → w0.heap.size ≤ bp → bp < w.heap.size → w.cell? ⟨bp, 0, none⟩ = some (.string s) → w.frozen? ⟨bp, 0, none⟩ = false →
  Calls Tryz.prog h (#[.pointer (some ⟨bp, 0, none⟩)] ++ cap) w fun r w' => r = .panicked [lackE er] ∧ ∃ v, Below w.heap.size (w.setCell ⟨bp, 0, none⟩ v) w'
def LackPost (rb ro : Nat) (er : Int) (z : Value) (w : World) (r : Ending) (w' : World) : Prop := r = .returned (.tuple #[z, .int .i64 er]) ∧ Below w.heap.size ((w.setCell ⟨rb, ro, none⟩ (.string ⟨#[]⟩)).setCell ⟨rb, ro + 1, none⟩ (.int .i64 er)) w'
theorem alloc_get (w : World) (o : Obj) (k : Nat) : (w.alloc o).heap[k]? = if k = w.heap.size then some o else w.heap[k]? := by
  show (w.heap.push o)[k]? = _; rw [Array.getElem?_push]
theorem chain5 (w : World) (o0 o1 o2 o3 o4 : Obj) : ∀ W, ((((w.alloc o0).alloc o1).alloc o2).alloc o3).alloc o4 = W →
    W.heap[w.heap.size]? = some o0 ∧ W.heap[w.heap.size + 1]? = some o1 ∧ W.heap[w.heap.size + 1 + 1]? = some o2 ∧ W.heap[w.heap.size + 1 + 1 + 1]? = some o3 ∧ W.heap[w.heap.size + 1 + 1 + 1 + 1]? = some o4 ∧ W.heap.size = w.heap.size + 5 := by
  rintro W rfl
  refine ⟨?_, ?_, ?_, ?_, ?_, by simp⟩ <;> (simp only [alloc_get, World.size_alloc]; repeat rw [if_neg (by omega)]) <;> first | rw [if_pos rfl] | rfl
theorem below_both {N : Nat} {w a : World} (h : Below N w a) (p : Addr) (u : Value) : Below N (w.setCell p u) (a.setCell p u) := by
  refine ⟨h.os, h.tape, h.output, by simpa [World.setCell] using h.size, fun k hk => ?_⟩
  simp only [World.setCell, Array.getElem?_modify, h.block k hk]
theorem cell_blk {w w' : World} {a : Addr} {v : Value} (hb : w'.heap[a.block]? = w.heap[a.block]?) (h : w.cell? a = some v) : w'.cell? a = some v := by
  rw [← h]; exact World.cell?_of_block (w := w) hb
theorem froz_blk {w w' : World} {a : Addr} {v : Bool} (hb : w'.heap[a.block]? = w.heap[a.block]?) (h : w.frozen? a = v) : w'.frozen? a = v := by
  rw [← h]; exact World.frozen?_of_block (w := w) hb
theorem setCell_blk {w : World} {p : Addr} {u : Value} {k : Nat} (h : p.block ≠ k) : (w.setCell p u).heap[k]? = w.heap[k]? := by
  simp only [World.setCell, Array.getElem?_modify, if_neg h]
theorem blk_setCell {w : World} {b o : Nat} {u : Value} {cs : Array Value} {t : TypeId} {fz : Nat × Nat} (h : w.heap[b]? = some (.cells cs t fz)) : (w.setCell ⟨b, o, none⟩ u).heap[b]? = some (.cells (cs.setIfInBounds o u) t fz) := by
  simp only [World.setCell, Array.getElem?_modify, h]
  rfl
theorem cell_one {w : World} {b : Nat} {v : Value} {t : TypeId} {fz : Nat × Nat} (h : w.heap[b]? = some (.cells #[v] t fz)) : w.cell? ⟨b, 0, none⟩ = some v := by simp [World.cell?, h]
theorem froz_one {w : World} {b : Nat} {v : Value} {t : TypeId} (h : w.heap[b]? = some (.cells #[v] t (0, 0))) : w.frozen? ⟨b, 0, none⟩ = false := by simp [World.frozen?, h]
end Go.Proofs.Rdr

namespace Go.Proofs.Rdr
open Go Go.RowKit Go.Proofs
end Go.Proofs.Rdr
