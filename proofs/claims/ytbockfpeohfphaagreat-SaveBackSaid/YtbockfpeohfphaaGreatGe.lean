/- AM: wire's reading, by its contracts. -/
import Derived.Test.YtbockfpeohfphaaGreatGd
import Derived.Laws.AppendOwn
import Derived.OwnWalk
import Derived.Maps.AppendAt
import Derived.Shelf.Strings.Builder1
import Derived.Shelf.Strings.BuilderF
import Derived.Shelf.Strings.BuilderK
import Derived.Test.YtbockfpeohfphaaGreatChecked
import Derived.Below
import Derived.WalkKit
import Derived.BigCall
import Derived.Laws.Bits64
import Derived.Test.YtbockfpeohfphaaGreatGc
import Derived.IntWalk

namespace Go.Am
open Go.RowKit Go.MapKept Go.Proofs Go.Proofs.Rdr
abbrev Parse := List UInt8 → Nat → (Value → List UInt8 → Bool) → (Int → Bool) → Bool
noncomputable def beK (l : List UInt8) (k : Nat → Bool) : Bool := lrec (β := Nat → Bool) k (fun b _ ih a => forceN (Nat.add (Nat.mul a 256) b.toNat) ih) l 0
theorem beK_eq (l : List UInt8) (k : Nat → Bool) : beK l k = k (be l) := by
 have : ∀ (l : List UInt8) (a : Nat), lrec (β := Nat → Bool) k (fun b _ ih a => forceN (Nat.add (Nat.mul a 256) b.toNat) ih) l a = k (l.foldl (fun a b => a * 256 + b.toNat) a) := by
  intro l
  induction l with
  | nil => intro a; rfl
  | cons b l ih => intro a; rw [lrec_cons, forceN_eq, ih]; rfl
 exact this l 0
noncomputable def numP : Parse := fun l n ok no => match Nat.ble 8 n with
 | true => takeK 8 l fun h => dropK 8 l fun t => beK h fun x => ok (.int .u64 (.ofNat x)) t
 | false => no (.ofNat 8)
noncomputable def byteP : Parse := fun l n ok no => match Nat.ble 1 n with
 | true => takeK 1 l fun h => dropK 1 l fun t => beK h fun x => ok (.int .u8 (.ofNat x)) t
 | false => no (.ofNat 8)
noncomputable def countP (most : Nat) : Parse := fun l n ok no => match Nat.ble 8 n with
 | true => takeK 8 l fun h => dropK 8 l fun t => beK h fun x => match Nat.ble x most with
  | true => ok (.int .i64 (.ofNat x)) t
  | false => no (.ofNat 4)
 | false => no (.ofNat 8)
noncomputable def textP : Parse := fun l n ok no => match Nat.ble 2 n with
 | true => takeK 2 l fun h => dropK 2 l fun t => beK h fun x => match Nat.ble x 2048 with
  | true => lenK t fun m => match Nat.ble x m with
   | true => takeK x t fun a => dropK x t fun r => ok (.string ⟨⟨a⟩⟩) r
   | false => no (.ofNat 8)
  | false => no (.ofNat 40)
 | false => no (.ofNat 8)
noncomputable def endP : Parse := fun l _ ok no => match l with
 | [] => ok (.bool true) []
 | _ :: _ => no (.ofNat 10)
noncomputable def rdK (zero : Value) (parse : Parse) (σ : St) (p : Value) (K : VK) : Bool :=
 match p with
 | .pointer none => K (.tuple ⟨[zero, .int .i64 (.ofNat 2)]⟩) σ
 | .pointer (some ⟨i, o, none⟩) => cellsK σ i fun vs _ ck => match ck with
  | .exact => nthK vs o fun a => nthK vs (Nat.succ o) fun b => match a, b with
   | .string s, .int .i64 e => match eqI e 0 with
    | true => lenK s.data.toList fun n => match Nat.blt n 9223372036854775808 with
     | true => parse s.data.toList n (fun v rest => writeK σ i o [.string ⟨⟨rest⟩⟩] fun σ => K (.tuple ⟨[v, .int .i64 (.ofNat 0)]⟩) σ) (fun er => writeK σ i o [.string ⟨⟨[]⟩⟩, .int .i64 er] fun σ => K (.tuple ⟨[zero, .int .i64 er]⟩) σ)
     | false => false
    | false => K (.tuple ⟨[zero, .int .i64 e]⟩) σ
   | _, _ => false
  | _ => false
 | _ => false
section
variable {w0 : World} {ρ : Rn} {σ : St} {w : World}
def PSpec (parse : Parse) (h : FuncId) (cap : Array Value) (T : Value → Prop) (w : World) : Prop := ∀ (s : ByteArray) (ok : Value → List UInt8 → Bool) (no : Int → Bool), s.size < 9223372036854775808 → parse s.data.toList s.size ok no = true →
 (∃ (v : Value) (rest : ByteArray), ok v rest.data.toList = true ∧ T v ∧ flat0 v = true ∧ HowOk h cap s rest v w) ∨ ∃ er, no er = true ∧ HowLack h cap s er w
structure RSpec (rd h : FuncId) (cap : Array Value) (zero : Value) (T : Value → Prop) : Prop where
 ok : ∀ (rb ro : Nat) (s rest : ByteArray) (v : Value) (w : World), T v → rb < w.heap.size → w.cell? ⟨rb, ro, none⟩ = some (.string s) → w.cell? ⟨rb, ro + 1, none⟩ = some (.int .i64 0) → w.frozen? ⟨rb, ro, none⟩ = false → HowOk h cap s rest v w →
  Calls Tryz.prog rd #[.pointer (some ⟨rb, ro, none⟩), .func (.func h) #[] cap] w (ReadPost rb ro rest v w)
 lack : ∀ (rb ro : Nat) (s : ByteArray) (er : Int) (w : World), rb < w.heap.size → w.cell? ⟨rb, ro, none⟩ = some (.string s) → w.cell? ⟨rb, ro + 1, none⟩ = some (.int .i64 0) → w.frozen? ⟨rb, ro, none⟩ = false → w.frozen? ⟨rb, ro + 1, none⟩ = false → HowLack h cap s er w →
  Calls Tryz.prog rd #[.pointer (some ⟨rb, ro, none⟩), .func (.func h) #[] cap] w (LackPost rb ro er zero w)
 wrong : ∀ (rb ro : Nat) (er : Int) (w : World), rb < w.heap.size → w.cell? ⟨rb, ro + 1, none⟩ = some (.int .i64 er) → er ≠ 0 →
  Calls Tryz.prog rd #[.pointer (some ⟨rb, ro, none⟩), .func (.func h) #[] cap] w fun r w' => r = .returned (.tuple #[zero, .int .i64 er]) ∧ Below w.heap.size w w'
 nil : ∀ (w : World), Calls Tryz.prog rd #[.pointer none, .func (.func h) #[] cap] w fun r w' => r = .returned (.tuple #[zero, .int .i64 2]) ∧ Below w.heap.size w w'
theorem tup2 {a b : Value} (ha : flat0 a = true) (hb : flat0 b = true) : VR ρ (.tuple ⟨[a, b]⟩) (.tuple #[a, b]) := .mk_tuple (VRs.cons (.flat ha) (VRs.cons (.flat hb) (.nil ρ)))
theorem frozen_exact {cs : Array Value} {t : TypeId} {fz : Nat × Nat} {b j : Nat} (hb : w.heap[b]? = some (.cells cs t fz)) (hth : Thawed cs.size fz) (hj : j < cs.size) : w.frozen? ⟨b, j, none⟩ = false := by
 have := hth j hj
 simp only [World.frozen?, hb]
 simpa using this
theorem rd_sound {rd h : FuncId} {cap : Array Value} {zero : Value} {T : Value → Prop} {parse : Parse} (R : RSpec rd h cap zero T) (hz : flat0 zero = true) (hrel : Rel Tryz.prog w0 ρ σ w) (hp : PSpec parse h cap T w) {p p' : Value} (hv : VR ρ p p') {K : VK} (hk : rdK zero parse σ p K = true) :
 Calls Tryz.prog rd #[p', .func (.func h) #[] cap] w (Back Tryz.prog w0 ρ w K) := by
 unfold rdK at hk
 split at hk
 · cases hv.of_flat rfl
   refine (R.nil w).mono ?_
   rintro e w' ⟨rfl, hb⟩
   obtain ⟨r1, r2⟩ := hrel.below hb
   exact ⟨_, rfl, ρ, _, σ, hk, tup2 hz rfl, r1, r2⟩
 · rename_i i o
   obtain ⟨_, L, hL, rfl⟩ := hv.ptr_inv
   obtain ⟨vs, e, ck, ho, hk⟩ := cellsK_true hk
   split at hk
   · obtain ⟨a, hao, hk⟩ := nthK_true' hk
     obtain ⟨b, hbo, hk⟩ := nthK_true' hk
     obtain ⟨cs, t, fz, hb, hcv, g1, g2, g3, g4, g5⟩ := hrel.cells ho hL
     obtain ⟨a', ha', har⟩ := hcv o a hao
     obtain ⟨b', hb', hbr⟩ := hcv (o + 1) b hbo
     have hlt : L.b < w.heap.size := hrel.loc i L hL
     have c0 : w.cell? ⟨L.b, L.s + o, none⟩ = some a' := cell_of hb ha'
     have c1 : w.cell? ⟨L.b, L.s + o + 1, none⟩ = some b' := cell_of hb hb'
     have f0 : w.frozen? ⟨L.b, L.s + o, none⟩ = false := frozen_exact hb g4 (Array.getElem?_eq_some_iff.1 ha').1
     have f1 : w.frozen? ⟨L.b, L.s + o + 1, none⟩ = false := frozen_exact hb g4 (Array.getElem?_eq_some_iff.1 hb').1
     have key : ∃ s er, a = .string s ∧ b = .int .i64 er := by
      revert hk
      cases a <;> cases b <;> first | (intro hk; cases hk; done) | skip
      rename_i s k er
      cases k <;> first | (intro hk; cases hk; done) | (intro _; exact ⟨_, _, rfl, rfl⟩)
     obtain ⟨s, er, rfl, rfl⟩ := key
     · cases har.of_flat rfl
       cases hbr.of_flat rfl
       dsimp only at hk
       split at hk
       · rename_i he
         rw [eqI_eq] at he
         have he := eq_of_beq he
         subst he
         rw [lenK_eq] at hk
         split at hk
         · rename_i hn
           have hn : s.size < 9223372036854775808 := Nat.le_of_ble_eq_true hn
           rcases hp s _ _ hn hk with ⟨v, rest, hk, hT, hfl, H⟩ | ⟨er, hk, H⟩
           · obtain ⟨σ', w1, hk, r1, r2, hrun⟩ := writeK_sound hrel hk hL (VRs.cons (.flat (v := .string rest) rfl) (.nil ρ)) (by intro v hv; simp at hv; subst hv; rfl)
             have hset : (storeCells ⟨L.b, L.s + o, none⟩ [.string rest]).run Tryz.prog w = .ok () (w.setCell ⟨L.b, L.s + o, none⟩ (.string rest)) := by
              simp only [storeCells, add_none, Nat.add_zero]
              rw [Sem.run_bind, run_store Tryz.prog w _ _ .plain rfl, c0, f0]
              rfl
             rw [hset] at hrun
             injection hrun with _ hrun
             subst hrun
             refine (R.ok L.b (L.s + o) s rest v w hT hlt c0 c1 f0 H).mono ?_
             rintro e w' ⟨rfl, hbl⟩
             obtain ⟨q1, q2⟩ := r1.below (w' := w') (hbl.mono (by simp [World.setCell]))
             exact ⟨_, rfl, ρ, _, σ', hk, tup2 hfl rfl, q1, r2.trans q2⟩
           · obtain ⟨σ', w1, hk, r1, r2, hrun⟩ := writeK_sound hrel hk hL (VRs.cons (.flat (v := .string ⟨#[]⟩) rfl) (VRs.cons (.flat (v := .int .i64 er) rfl) (.nil ρ))) (by intro v hv; simp at hv; rcases hv with rfl | rfl <;> rfl)
             have hset : (storeCells ⟨L.b, L.s + o, none⟩ [.string ⟨#[]⟩, .int .i64 er]).run Tryz.prog w = .ok () ((w.setCell ⟨L.b, L.s + o, none⟩ (.string ⟨#[]⟩)).setCell ⟨L.b, L.s + o + 1, none⟩ (.int .i64 er)) := by
              have d1 : (w.setCell ⟨L.b, L.s + o, none⟩ (.string ⟨#[]⟩)).cell? ⟨L.b, L.s + o + 1, none⟩ = some (.int .i64 0) := by
               rw [World.cell?_setCell_other _ _ _ _ (by intro e; injection e with _ e; omega)]; exact c1
              have d2 : (w.setCell ⟨L.b, L.s + o, none⟩ (.string ⟨#[]⟩)).frozen? ⟨L.b, L.s + o + 1, none⟩ = false := by rw [World.frozen?_setCell]; exact f1
              simp only [storeCells, add_none, Nat.add_zero]
              rw [Sem.run_bind, run_store Tryz.prog w _ _ .plain rfl, c0, f0]
              simp only [Result.andThen]
              simp only [Bool.false_eq_true, if_false, Nat.zero_add]
              rw [Sem.run_bind, run_store Tryz.prog _ _ _ .plain rfl, Nat.add_assoc] at *
              rw [d1, d2]
              rfl
             rw [hset] at hrun
             injection hrun with _ hrun
             subst hrun
             refine (R.lack L.b (L.s + o) s er w hlt c0 c1 f0 f1 H).mono ?_
             rintro e w' ⟨rfl, hbl⟩
             obtain ⟨q1, q2⟩ := r1.below (w' := w') (hbl.mono (by simp [World.setCell]))
             exact ⟨_, rfl, ρ, _, σ', hk, tup2 hz rfl, q1, r2.trans q2⟩
         · cases hk
       · rename_i he
         have he : er ≠ 0 := by
          intro e; subst e
          exact absurd he (by decide)
         refine (R.wrong L.b (L.s + o) er w hlt c1 he).mono ?_
         rintro e w' ⟨rfl, hbl⟩
         obtain ⟨q1, q2⟩ := hrel.below hbl
         exact ⟨_, rfl, ρ, _, σ, hk, tup2 hz rfl, q1, q2⟩
   · cases hk
 · cases hk
end
end Go.Am

namespace Go.Am
open Go.RowKit Go.MapKept Go.Proofs Go.Proofs.Rdr
theorem ext_drop (s : ByteArray) (n : Nat) : (s.extract n s.size).data.toList = s.data.toList.drop n := by
 rw [ByteArray.data_extract, Array.toList_extract]
 unfold List.extract
 exact List.take_of_length_le (by rw [List.length_drop]; exact Nat.le_refl _)
theorem rspec64 {h : FuncId} {cap : Array Value} (he : ∀ args w, (callFunc h args).run Tryz.prog w = .ok (.enter h args) w) : RSpec 160 h cap (.int .u64 0) (fun v => ∃ x, v = .int .u64 x) :=
 ⟨fun rb ro s rest v w ⟨x, hx⟩ a1 a2 a3 a4 H => by subst hx; exact read64_ok rb ro h cap s rest x w a1 a2 a3 a4 he H, fun rb ro s er w a1 a2 a3 a4 a5 H => read64_lack rb ro h cap s er w a1 a2 a3 a4 a5 he H, fun rb ro er w a1 a2 a3 => read64_wrong rb ro _ er w a1 a2 a3, fun w => read64_nil _ w⟩
theorem rspec8 {h : FuncId} {cap : Array Value} (he : ∀ args w, (callFunc h args).run Tryz.prog w = .ok (.enter h args) w) : RSpec 158 h cap (.int .u8 0) (fun v => ∃ x, v = .int .u8 x) :=
 ⟨fun rb ro s rest v w ⟨x, hx⟩ a1 a2 a3 a4 H => by subst hx; exact read8_ok rb ro h cap s rest x w a1 a2 a3 a4 he H, fun rb ro s er w a1 a2 a3 a4 a5 H => read8_lack rb ro h cap s er w a1 a2 a3 a4 a5 he H, fun rb ro er w a1 a2 a3 => read8_wrong rb ro _ er w a1 a2 a3, fun w => read8_nil _ w⟩
theorem rspecN {h : FuncId} {cap : Array Value} (he : ∀ args w, (callFunc h args).run Tryz.prog w = .ok (.enter h args) w) : RSpec 155 h cap (.int .i64 0) (fun v => ∃ x, v = .int .i64 x) :=
 ⟨fun rb ro s rest v w ⟨x, hx⟩ a1 a2 a3 a4 H => by subst hx; exact readN_ok rb ro h cap s rest x w a1 a2 a3 a4 he H, fun rb ro s er w a1 a2 a3 a4 a5 H => readN_lack rb ro h cap s er w a1 a2 a3 a4 a5 he H, fun rb ro er w a1 a2 a3 => readN_wrong rb ro _ er w a1 a2 a3, fun w => readN_nil _ w⟩
theorem rspecS {h : FuncId} {cap : Array Value} (he : ∀ args w, (callFunc h args).run Tryz.prog w = .ok (.enter h args) w) : RSpec 165 h cap (.string ⟨#[]⟩) (fun v => ∃ x, v = .string x) :=
 ⟨fun rb ro s rest v w ⟨x, hx⟩ a1 a2 a3 a4 H => by subst hx; exact readS_ok rb ro h cap s rest x w a1 a2 a3 a4 he H, fun rb ro s er w a1 a2 a3 a4 a5 H => readS_lack rb ro h cap s er w a1 a2 a3 a4 a5 he H, fun rb ro er w a1 a2 a3 => readS_wrong rb ro _ er w a1 a2 a3, fun w => readS_nil _ w⟩
theorem rspecB {h : FuncId} {cap : Array Value} (he : ∀ args w, (callFunc h args).run Tryz.prog w = .ok (.enter h args) w) : RSpec 70 h cap (.bool false) (fun v => ∃ x, v = .bool x) :=
 ⟨fun rb ro s rest v w ⟨x, hx⟩ a1 a2 a3 a4 H => by subst hx; exact readB_ok rb ro h cap s rest x w a1 a2 a3 a4 he H, fun rb ro s er w a1 a2 a3 a4 a5 H => readB_lack rb ro h cap s er w a1 a2 a3 a4 a5 he H, fun rb ro er w a1 a2 a3 => readB_wrong rb ro _ er w a1 a2 a3, fun w => readB_nil _ w⟩
section
variable {w : World}
theorem num_spec : PSpec numP 161 #[] (fun v => ∃ x, v = .int .u64 x) w := by
 intro s ok no hs hk
 unfold numP at hk
 split at hk
 · rename_i hn
   have hn := Nat.le_of_ble_eq_true hn
   have hl : 8 ≤ s.data.toList.length := hn
   rw [takeK_eq, if_pos hl, dropK_eq, if_pos hl, beK_eq] at hk
   exact .inl ⟨_, s.extract 8 s.size, by rw [ext_drop]; exact hk, ⟨_, rfl⟩, rfl, how_num s w hn hs⟩
 · rename_i hn
   exact .inr ⟨8, hk, how_num_no s w (by have := Nat.not_le_of_not_ble_eq_true (by rw [hn]; decide); omega)⟩
theorem byte_spec : PSpec byteP 159 #[] (fun v => ∃ x, v = .int .u8 x) w := by
 intro s ok no hs hk
 unfold byteP at hk
 split at hk
 · rename_i hn
   have hn := Nat.le_of_ble_eq_true hn
   have hl : 1 ≤ s.data.toList.length := hn
   rw [takeK_eq, if_pos hl, dropK_eq, if_pos hl, beK_eq] at hk
   exact .inl ⟨_, s.extract 1 s.size, by rw [ext_drop]; exact hk, ⟨_, rfl⟩, rfl, how_byte s w hn hs⟩
 · rename_i hn
   exact .inr ⟨8, hk, how_byte_no s w (by have := Nat.not_le_of_not_ble_eq_true (by rw [hn]; decide); omega)⟩
theorem count_spec {mb most : Nat} (hm : w.cell? ⟨mb, 0, none⟩ = some (.int .i64 most)) (hmb : mb < w.heap.size) (hmost : most < 9223372036854775808) : PSpec (countP most) 156 #[.pointer (some ⟨mb, 0, none⟩)] (fun v => ∃ x, v = .int .i64 x) w := by
 intro s ok no hs hk
 unfold countP at hk
 split at hk
 · rename_i hn
   have hn := Nat.le_of_ble_eq_true hn
   have hl : 8 ≤ s.data.toList.length := hn
   rw [takeK_eq, if_pos hl, dropK_eq, if_pos hl, beK_eq] at hk
   · · split at hk
       · rename_i hle
         exact .inl ⟨_, s.extract 8 s.size, by rw [ext_drop]; exact hk, ⟨_, rfl⟩, rfl, how_count mb most s w hm hmb hmost hn hs (Nat.le_of_ble_eq_true hle)⟩
       · rename_i hle
         exact .inr ⟨4, hk, how_count_large mb most s w hm hmb hmost hn hs (by have := Nat.not_le_of_not_ble_eq_true (by rw [hle]; decide); omega)⟩
 · rename_i hn
   exact .inr ⟨8, hk, how_count_no mb s w (by have := Nat.not_le_of_not_ble_eq_true (by rw [hn]; decide); omega)⟩
theorem text_spec : PSpec textP 166 #[] (fun v => ∃ x, v = .string x) w := by
 intro s ok no hs hk
 unfold textP at hk
 split at hk
 · rename_i hn
   have hn := Nat.le_of_ble_eq_true hn
   have hl : 2 ≤ s.data.toList.length := hn
   rw [takeK_eq, if_pos hl, dropK_eq, if_pos hl, beK_eq] at hk
   · · have e1 := ext_drop s 2
       have hsz1 : (s.extract 2 s.size).size = (s.data.toList.drop 2).length := by rw [← e1]; rfl
       split at hk
       · rename_i hle
         have hle := Nat.le_of_ble_eq_true hle
         rw [lenK_eq] at hk
         split at hk
         · rename_i hle2
           have hle2 := Nat.le_of_ble_eq_true hle2
           rw [takeK_eq, if_pos hle2, dropK_eq, if_pos hle2] at hk
           · refine .inl ⟨.string ((s.extract 2 s.size).extract 0 (be (s.data.toList.take 2))), (s.extract 2 s.size).extract (be (s.data.toList.take 2)) (s.extract 2 s.size).size, ?_, ⟨_, rfl⟩, rfl, how_text s _ _ w rfl rfl hle hn hs (by rw [hsz1]; exact hle2)⟩
             have e2 : (s.extract 2 s.size).extract 0 (be (s.data.toList.take 2)) = (⟨⟨List.take (be (List.take 2 s.data.toList)) (List.drop 2 s.data.toList)⟩⟩ : ByteArray) := by
              apply ByteArray.ext; apply Array.toList_inj.1
              rw [ext_take, e1]
             rw [e2, ext_drop, e1]
             exact hk
         · rename_i hle2
           exact .inr ⟨8, hk, how_text_cut s _ _ w rfl rfl hle hn hs (by rw [hsz1]; have := Nat.not_le_of_not_ble_eq_true (by rw [hle2]; decide); omega)⟩
       · rename_i hle
         exact .inr ⟨40, hk, how_text_large s w hn hs (by have := Nat.not_le_of_not_ble_eq_true (by rw [hle]; decide); omega)⟩
 · rename_i hn
   exact .inr ⟨8, hk, how_text_short s w (by have := Nat.not_le_of_not_ble_eq_true (by rw [hn]; decide); omega)⟩
theorem end_spec : PSpec endP 71 #[] (fun v => ∃ x, v = .bool x) w := by
 intro s ok no hs hk
 unfold endP at hk
 split at hk
 · rename_i hl
   have e : s = ⟨#[]⟩ := by apply ByteArray.ext; apply Array.toList_inj.1; exact hl
   subst e
   exact .inl ⟨.bool true, ⟨#[]⟩, hk, ⟨_, rfl⟩, rfl, how_end w⟩
 · rename_i b t hl
   exact .inr ⟨10, hk, how_end_no s w (by rw [ba_toList, hl]; rfl)⟩
end
end Go.Am

namespace Go.Am
open Go.RowKit Go.MapKept Go.Proofs Go.Proofs.Rdr
noncomputable def ovRd (h : FuncId) (zero : Value) (parse : Parse) (args : List Value) (σ : St) (K : VK) : Bool :=
 match args with
 | [p, .func (.func g) ⟨[]⟩ ⟨[]⟩] => match Nat.beq g h with
  | true => rdK zero parse σ p K
  | false => false
 | _ => false
noncomputable def ovCnt (args : List Value) (σ : St) (K : VK) : Bool :=
 match args with
 | [p, .func (.func g) ⟨[]⟩ ⟨[.pointer (some ⟨m, o, none⟩)]⟩] => match Nat.beq g 156 with
  | true => cellsK σ m fun vs _ ck => match ck, o with
   | .exact, 0 => nthK vs 0 fun v => match v with
    | .int .i64 (.ofNat most) => match Nat.blt most 9223372036854775808 with
     | true => rdK (.int .i64 (.ofNat 0)) (countP most) σ p K
     | false => false
    | _ => false
   | _, _ => false
  | false => false
 | _ => false
section
variable {w0 : World} {ρ : Rn} {σ : St} {w : World}
theorem two_args {a b : Value} {args' : List Value} (h : VRs ρ [a, b] args') : ∃ a' b', args' = [a', b'] ∧ VR ρ a a' ∧ VR ρ b b' := by
 obtain ⟨a', t, rfl, h1, h2⟩ := h.inv_cons
 obtain ⟨b', rfl, h3⟩ := one_arg h2
 exact ⟨a', b', rfl, h1, h3⟩
theorem ovRd_ok {rd h : FuncId} {zero : Value} {T : Value → Prop} {parse : Parse} (hrd : ∀ args w, (callFunc rd args).run Tryz.prog w = .ok (.enter rd args) w) (R : RSpec rd h #[] zero T) (hz : flat0 zero = true) (hp : ∀ w, PSpec parse h #[] T w) :
 CallOk Tryz.prog w0 (fun f' args σ K => match Nat.beq f' rd with | true => ovRd h zero parse args σ K | false => false) := by
 intro f' args σ K ρ w args' hk hr ha
 dsimp only at hk
 split at hk
 · rename_i hf'
   obtain rfl : f' = rd := by simpa using hf'
   refine ⟨hrd ⟨args'⟩, ?_⟩
   unfold ovRd at hk
   split at hk
   · rename_i p g
     obtain ⟨p', fv, rfl, hv, hf⟩ := two_args ha
     cases hf.func0
     split at hk
     · rename_i hg
       have hg := Nat.eq_of_beq_eq_true hg
       subst hg
       exact callsIn_wide.2 (rd_sound R hz hr (hp w) hv hk)
     · cases hk
   · cases hk
 · cases hk
theorem ovCnt_ok : CallOk Tryz.prog w0 (fun f' args σ K => match Nat.beq f' 155 with | true => ovCnt args σ K | false => false) := by
 intro f' args σ K ρ w args' hk hr ha
 dsimp only at hk
 split at hk
 · rename_i hf'
   obtain rfl : f' = 155 := by simpa using hf'
   refine ⟨enters_of Tryz.func155 (by kernel_rfl) rfl ⟨args'⟩, ?_⟩
   unfold ovCnt at hk
   split at hk
   · rename_i p g m o
     obtain ⟨p', fv, rfl, hv, hf⟩ := two_args ha
     obtain ⟨L, hL, rfl⟩ := hf.func1
     split at hk
     · rename_i hg
       have hg := Nat.eq_of_beq_eq_true hg
       subst hg
       obtain ⟨vs, e, ck, ho, hk⟩ := cellsK_true hk
       split at hk
       · obtain ⟨v, hvo, hk⟩ := nthK_true' hk
         split at hk
         · rename_i most
           split at hk
           · rename_i hm
             have hm := Nat.le_of_ble_eq_true hm
             obtain ⟨cs, t, fz, hb, hcv, g1, g2, g3, g4, g5⟩ := hr.cells ho hL
             obtain ⟨v', hv', hvr⟩ := hcv 0 _ hvo
             cases hvr.of_flat rfl
             rw [g2] at hv' ⊢
             have hc : w.cell? ⟨L.b, 0, none⟩ = some (.int .i64 (most : Nat)) := by
              have := cell_of hb hv'
              exact this
             exact callsIn_wide.2 (rd_sound (rspecN (enters_of Tryz.func156 (by kernel_rfl) rfl)) rfl hr (count_spec hc (hr.loc m L hL) hm) hv hk)
           · cases hk
         · cases hk
       · cases hk
     · cases hk
   · cases hk
 · cases hk
end
end Go.Am

namespace Go.Proofs.Rdr
open Go Go.RowKit Go.Proofs
def wds (l : List UInt8) (k : Nat) : List Nat := (List.range k).map fun i => be ((l.drop (8 * i)).take 8)
theorem wds_succ (l : List UInt8) (k : Nat) : wds l (k + 1) = wds l k ++ [be ((l.drop (8 * k)).take 8)] := by simp [wds, List.range_succ]
theorem wds_length (l : List UInt8) (k : Nat) : (wds l k).length = k := by simp [wds]
def wvals (l : List UInt8) (k : Nat) : List Value := (wds l k).map fun x => .int .u64 ((x : Nat) : Int)
theorem wvals_succ (l : List UInt8) (k : Nat) : wvals l (k + 1) = wvals l k ++ [.int .u64 ((be ((l.drop (8 * k)).take 8) : Nat) : Int)] := by simp [wvals, wds_succ]
theorem owns_past {w w' : World} {B : Nat} {e : TypeId} {sz : Nat} {v : Value} {n : Nat} {xs : List Value} (h : w.ownsRow B e sz v n xs) (hk : ∀ g, B ≤ g → g < w.heap.size → w'.heap[g]? = w.heap[g]?) : w'.ownsRow B e sz v n xs := by
 refine ⟨h.1, ?_⟩
 rcases h.2 with h2 | ⟨g, cap, cur, h1, h2, h3, h4⟩
 · exact .inl h2
 · exact .inr ⟨g, cap, cur, h1, h2, (hk g h2 (Array.getElem?_eq_some_iff.1 h3).1).trans h3, h4⟩
theorem ext_drop' (s : ByteArray) (n : Nat) : (s.extract n s.size).data.toList = s.data.toList.drop n := by
 rw [ByteArray.data_extract, Array.toList_extract]
 unfold List.extract
 exact List.take_of_length_le (by rw [List.length_drop]; exact Nat.le_refl _)
theorem ext_ext (s : ByteArray) (a b : Nat) : (s.extract a s.size).extract b (s.extract a s.size).size = s.extract (a + b) s.size := by
 apply ByteArray.ext; apply Array.toList_inj.1
 rw [ext_drop', ext_drop', ext_drop', List.drop_drop]
theorem info64 : (Tryz.prog.info? 57).map (fun i => (i.zero, i.size, i.bytes)) = some (some (.int .u64 0), 1, 8) := by kernel_rfl
def HowList (h : FuncId) (cap : Array Value) (s rest : ByteArray) (xs : List Value) (w0 : World) : Prop := ∀ (bp : Nat) (w : World), Below w0.heap.size w0 w → w0.heap.size ≤ bp → bp < w.heap.size → w.cell? ⟨bp, 0, none⟩ = some (.string s) → w.frozen? ⟨bp, 0, none⟩ = false →
 Calls Tryz.prog h (#[.pointer (some ⟨bp, 0, none⟩)] ++ cap) w fun r w' => ∃ x xc, r = .returned (.slice x xs.length xc) ∧ (xs.length = 0 → x = none ∧ xc = 0) ∧ w'.ownsRow w.heap.size 57 1 (.slice x xs.length xc) xs.length xs ∧ Below w.heap.size (w.setCell ⟨bp, 0, none⟩ (.string rest)) w'
set_option maxHeartbeats 2000000 in
set_option maxRecDepth 100000 in
theorem how_list (s s1 : ByteArray) (n : Nat) (w0 : World) (h1 : s.extract 2 s.size = s1) (hn0 : be (s.data.toList.take 2) = n) (hn2 : n ≤ 1024) (hn : 2 ≤ s.size) (hs : s.size < 9223372036854775808) (hs1 : n * 8 ≤ s1.size) :
 HowList 163 #[] s (s1.extract (8 * n) s1.size) (wvals s1.data.toList n) w0 := by
 intro bp w _ _ hlt hc hz
 obtain ⟨i0, hi0, hi1, hi2, hi3⟩ := info_parts info64
 have T := length_ok bp 1024 s w hc hz hn hs (by omega)
 rw [h1, hn0] at T
 have hl1 : s1.size < 9223372036854775808 := by rw [← h1, ByteArray.size_extract]; omega
 have C1 : ∀ w', Below w.heap.size (w.setCell ⟨bp, 0, none⟩ (.string s1)) w' → w'.cell? ⟨bp, 0, none⟩ = some (.string s1) := fun w' hb => cell_new hb hlt hc
 have C2 : ∀ (x : ByteArray) w', Below w.heap.size (w.setCell ⟨bp, 0, none⟩ (.string x)) w' → w'.cell? ⟨bp, 0, none⟩ = some (.string x) ∧ w'.frozen? ⟨bp, 0, none⟩ = false := fun x w' hb => ⟨cell_new hb hlt hc, froz_new hb hlt hz⟩
 clear hc hz hn hs h1 hn0
 have hle : decide ((n : Int) * 8 ≤ (s1.size : Int)) = true := by rw [decide_eq_true_eq]; omega
 go_enter Tryz.func163, Tryz.ntmps163
 go_wp2_with (go_at_call 164; refine T.mono ?_; rintro e w' ⟨rfl, hb⟩; have c1 := C1 w' hb)
 go_wp2_with (go_at_call 72; refine (need_ok _ _).mono ?_; rintro e w2 ⟨rfl, hw2⟩; obtain rfl : w' = w2 := hw2.symm)
 go_loopw [2, 16] (fun v i wr => ∃ (k : Nat) (ao : Option Addr) (cv : Nat), k ≤ n ∧ i = .int .i64 k ∧ v = .slice ao k cv ∧ (k = 0 → ao = none ∧ cv = 0) ∧ wr.ownsRow w.heap.size 57 1 v k (wvals s1.data.toList k) ∧ Below w.heap.size (w.setCell ⟨bp, 0, none⟩ (.string (s1.extract (8 * k) s1.size))) wr)
  (fun _ i _ => n - (intOf i).toNat)
 case atStart => exact ⟨0, none, 0, Nat.zero_le _, rfl, rfl, fun _ => ⟨rfl, rfl⟩, World.ownsRow_nil _ _ _ _, by simpa using hb⟩
 case round =>
  obtain ⟨k, ao, cv, hk, rfl, rfl, hz0, hown, hbw⟩ := hrel
  by_cases hlt2 : k < n
  · have e8 : (s1.extract (8 * k) s1.size).size = s1.size - 8 * k := by rw [ByteArray.size_extract]; omega
    have T2 := number_ok bp 8 (s1.extract (8 * k) s1.size) wr (C2 _ _ hbw).1 (C2 _ _ hbw).2 (by omega) (by omega) (by omega)
    rw [ext_take, ext_ext, ext_drop', show 8 * k + 8 = 8 * (k + 1) by omega] at T2
    clear e8
    generalize hx : be (List.take 8 (List.drop (8 * k) s1.data.toList)) = x at T2
    generalize hr : s1.extract (8 * (k + 1)) s1.size = rest1 at T2
    have HO : ∀ w2, Below wr.heap.size (wr.setCell ⟨bp, 0, none⟩ (.string rest1)) w2 → w2.ownsRow w.heap.size 57 1 (.slice ao k cv) k (wvals s1.data.toList k) := fun w2 hb2 =>
     owns_past hown fun g a1 a2 => (hb2.block g a2).trans (setCell_blk (by show bp ≠ g; omega))
    have HB : ∀ w2, Below wr.heap.size (wr.setCell ⟨bp, 0, none⟩ (.string rest1)) w2 → Below w.heap.size (w.setCell ⟨bp, 0, none⟩ (.string rest1)) w2 := fun w2 hb2 =>
     (set_below.trans (below_both hbw _ _)).trans (hb2.mono (by have := hbw.size; simpa [World.setCell] using this))
    clear hown hbw
    go_wp2_with (first
     | (go_at_call 157; refine T2.mono ?_; rintro e w2 ⟨rfl, hb2⟩; have hown := HO w2 hb2; have hbw := HB w2 hb2; have hsz := hbw.size; clear HO HB)
     | (at_builtin; refine wpList_append_own _ rfl _ _ 60 rfl w.heap.size 57 i0 (.int .u64 0) 1 8 Tryz.underlying60 hi0 hi1 hi2 hi3 rfl (by decide) _ _ _ rfl (hown.alloc _) ⟨w2.heap.size, 0, none⟩ 1 1 [.int .u64 (x : Nat)] rfl rfl (cell_one_new _ _ _) (fun x hx => by simp at hx; subst hx; rfl) (by unfold maxLen; omega) (by omega) (by simp [World.setCell] at hsz ⊢; omega) ?_; intro v' w3 hown' hgrow3 hnil3))
    go_roundw
    case rel =>
     obtain ⟨g3, cap3, hv3⟩ : ∃ g3 cap3, v' = .slice (some ⟨g3, 0, none⟩) (k + 1) cap3 := by
      rcases hown'.2 with ⟨_, h⟩ | ⟨g3, cap3, _, h, _⟩
      · omega
      · exact ⟨g3, cap3, h⟩
     refine ⟨k + 1, some ⟨g3, 0, none⟩, cap3, by omega, by go_num, hv3, fun h => absurd h (by omega), ?_, ?_⟩
     · rw [wvals_succ, hx]; exact hown'
     · rw [hr]
       exact (hbw.alloc (by simp [World.setCell] at hsz ⊢; omega) _).grown hgrow3 (by simp [World.setCell] at hsz ⊢; omega) (fun q hq => (hown.lt q hq).1)
    case measure => simp [intOf]; omega
  · go_wp2
    go_ret
    have hkk : k = n := by omega
    subst hkk
    have hl : (wvals s1.data.toList k).length = k := by simp [wvals, wds_length]
    rw [hl]
    exact ⟨ao, cv, rfl, hz0, hown, hbw⟩
end Go.Proofs.Rdr

namespace Go.Proofs.Rdr
open Go Go.RowKit Go.Proofs
theorem how_list_short (s : ByteArray) (w0 : World) (hn : s.size < 2) : HowLack 163 #[] s 8 w0 := by
 intro bp w _ _ _ hc hz
 have T := length_short bp 1024 s w hc hn
 have hp := setCell_same hc
 clear hc hz hn
 go_enter Tryz.func163, Tryz.ntmps163
 go_wp2_with (go_at_call 164; refine T.mono ?_; rintro e w' ⟨rfl, rfl⟩)
 exact ⟨rfl, rfl, hp⟩
theorem how_list_large (s : ByteArray) (w0 : World) (hn : 2 ≤ s.size) (hs : s.size < 9223372036854775808) (hm : 1024 < be (s.data.toList.take 2)) : HowLack 163 #[] s 40 w0 := by
 intro bp w _ _ _ hc hz
 have T := length_large bp 1024 s w hc hz hn hs hm
 clear hc hz hn hs hm
 go_enter Tryz.func163, Tryz.ntmps163
 go_wp2_with (go_at_call 164; refine T.mono ?_; rintro e w' ⟨rfl, hb⟩)
 exact ⟨rfl, rfl, hb⟩
theorem how_list_cut (s s1 : ByteArray) (n : Nat) (w0 : World) (h1 : s.extract 2 s.size = s1) (hn0 : be (s.data.toList.take 2) = n) (hn2 : n ≤ 1024) (hn : 2 ≤ s.size) (hs : s.size < 9223372036854775808) (hs1 : s1.size < n * 8) : HowLack 163 #[] s 8 w0 := by
 intro bp w _ _ hlt hc hz
 have T := length_ok bp 1024 s w hc hz hn hs (by omega)
 rw [h1, hn0] at T
 have hl1 : s1.size < 9223372036854775808 := by rw [← h1, ByteArray.size_extract]; omega
 have C1 : ∀ w', Below w.heap.size (w.setCell ⟨bp, 0, none⟩ (.string s1)) w' → w'.cell? ⟨bp, 0, none⟩ = some (.string s1) := fun w' hb => cell_new hb hlt hc
 clear hc hz hn hs h1 hn0
 have hle : decide ((n : Int) * 8 ≤ (s1.size : Int)) = false := by rw [decide_eq_false_iff_not]; omega
 go_enter Tryz.func163, Tryz.ntmps163
 go_wp2_with (go_at_call 164; refine T.mono ?_; rintro e w' ⟨rfl, hb⟩; have c1 := C1 w' hb)
 go_wp2_with (go_at_call 72; refine (need_no _ _).mono ?_; rintro e w2 ⟨rfl, hw2⟩; obtain rfl : w' = w2 := hw2.symm)
 exact ⟨rfl, rfl, _, hb⟩
end Go.Proofs.Rdr

namespace Go.Proofs.Rdr
open Go Go.RowKit Go.Proofs
set_option maxHeartbeats 400000 in
theorem idleL (pv rv xv ev pb rb ro : Nat) (s : ByteArray) (w : World) (h1 : w.cell? ⟨pv, 0, none⟩ = some (.pointer (some ⟨pb, 0, none⟩))) (h2 : w.cell? ⟨rv, 0, none⟩ = some (.pointer (some ⟨rb, ro, none⟩)))
 (h3 : w.cell? ⟨pb, 0, none⟩ = some (.string s)) (old : Value) (h4 : w.cell? ⟨rb, ro, none⟩ = some old) (h5 : w.frozen? ⟨rb, ro, none⟩ = false) :
 CallsD Tryz.prog 171 #[.pointer (some ⟨pv, 0, none⟩), .pointer (some ⟨rv, 0, none⟩), .pointer (some ⟨xv, 0, none⟩), .pointer (some ⟨ev, 0, none⟩)] .returning w fun e u' w' =>
  e = .returned (.tuple #[]) ∧ u' = .returning ∧ w' = w.drew.setCell ⟨rb, ro, none⟩ (.string s) := by
 have mixed := mixed
 refine callsD_of_wpS Tryz.func171 rfl fun c₀ cs hu => ?_
 apply wpS_seq
 apply wpS_region
 simp [wpOpsS, go_sem, recoverD, hu, Tryz.ntmps171, Exit.thenS]
 have hnil : ∀ w : World, (binOp BinOp.eql 20 .nilIface .nilIface).run Tryz.prog w = .ok (.bool true) w := fun _ => by kernel_rfl
 have g1 : w.drew.cell? ⟨pv, 0, none⟩ = some (.pointer (some ⟨pb, 0, none⟩)) := h1
 have g2 : w.drew.cell? ⟨rv, 0, none⟩ = some (.pointer (some ⟨rb, ro, none⟩)) := h2
 have g3 : w.drew.cell? ⟨pb, 0, none⟩ = some (.string s) := h3
 have g4 : w.drew.cell? ⟨rb, ro, none⟩ = some old := h4
 have g5 : w.drew.frozen? ⟨rb, ro, none⟩ = false := h5
 refine wpS_of_wp ?_
 have ht : (#[.pointer (some ⟨pv, 0, none⟩), .pointer (some ⟨rv, 0, none⟩), .pointer (some ⟨xv, 0, none⟩), .pointer (some ⟨ev, 0, none⟩)] ++ (Array.replicate 28 undef).setIfInBounds 4 Value.nilIface : Array Value) = #[.pointer (some ⟨pv, 0, none⟩), .pointer (some ⟨rv, 0, none⟩), .pointer (some ⟨xv, 0, none⟩), .pointer (some ⟨ev, 0, none⟩), undef, undef, undef, undef, .nilIface, undef, undef, undef, undef, undef, undef, undef, undef, undef, undef, undef, undef, undef, undef, undef, undef, undef, undef, undef, undef, undef, undef, undef] := by simp [Array.replicate, List.replicate]
 rw [ht]
 go_wp2
 go_region_o
 all_goals
  go_wp2
 cases c₀
 simp_all [bodyPostS, results, Tryz.results171]
set_option maxHeartbeats 2000000 in
theorem caughtL (pv rv xv ev rb ro : Nat) (er : Int) (w : World) (h2 : w.cell? ⟨rv, 0, none⟩ = some (.pointer (some ⟨rb, ro, none⟩)))
 (ox oe os or_ : Value) (h4 : w.cell? ⟨xv, 0, none⟩ = some ox) (h5 : w.frozen? ⟨xv, 0, none⟩ = false) (h6 : w.cell? ⟨ev, 0, none⟩ = some oe) (h7 : w.frozen? ⟨ev, 0, none⟩ = false)
 (h8 : w.cell? ⟨rb, ro, none⟩ = some os) (h9 : w.frozen? ⟨rb, ro, none⟩ = false) (h10 : w.cell? ⟨rb, ro + 1, none⟩ = some or_) (h11 : w.frozen? ⟨rb, ro + 1, none⟩ = false)
 (d1 : xv ≠ rv) (d2 : ev ≠ rv) (d3 : xv ≠ ev) (d4 : xv ≠ rb) (d5 : ev ≠ rb) (d6 : rb ≠ rv) (l1 : rv < w.heap.size) (l2 : xv < w.heap.size) (l3 : ev < w.heap.size) (l4 : rb < w.heap.size) :
 CallsD Tryz.prog 171 #[.pointer (some ⟨pv, 0, none⟩), .pointer (some ⟨rv, 0, none⟩), .pointer (some ⟨xv, 0, none⟩), .pointer (some ⟨ev, 0, none⟩)] (.panicking [{ lackE er with recovered := false }]) w fun e u' w' =>
  e = .returned (.tuple #[]) ∧ u' = .panicking [{ lackE er with recovered := true }] ∧
  w' = (((((w.alloc (.cells #[.int .i64 er] 219)).setCell ⟨xv, 0, none⟩ (.slice none 0 0)).setCell ⟨ev, 0, none⟩ (.int .i64 er)).drew.setCell ⟨rb, ro, none⟩ (.string ⟨#[]⟩)).setCell ⟨rb, ro + 1, none⟩ (.int .i64 er)).drew := by
 have mixed := mixed
 unfold lackE
 refine callsD_of_wpS Tryz.func171 rfl fun c₀ cs hu => ?_
 apply wpS_seq
 apply wpS_region
 simp [wpOpsS, go_sem, recoverD, hu, Tryz.ntmps171, Exit.thenS]
 have hnil : ∀ w : World, (binOp BinOp.eql 20 (.iface 219 (.agg #[.int .i64 er])) .nilIface).run Tryz.prog w = .ok (.bool false) w := fun _ => by kernel_rfl
 have hta : ∀ w : World, (Instr.typeAssert (.iface 219 (.agg #[.int .i64 er])) 20 219 true).run Tryz.prog w = .ok (.tuple #[.agg #[.int .i64 er], .bool true]) w := fun _ => by kernel_rfl
 refine wpS_of_wp ?_
 have ht : (#[.pointer (some ⟨pv, 0, none⟩), .pointer (some ⟨rv, 0, none⟩), .pointer (some ⟨xv, 0, none⟩), .pointer (some ⟨ev, 0, none⟩)] ++ (Array.replicate 28 undef).setIfInBounds 4 (.iface 219 (.agg #[.int .i64 er])) : Array Value) = #[.pointer (some ⟨pv, 0, none⟩), .pointer (some ⟨rv, 0, none⟩), .pointer (some ⟨xv, 0, none⟩), .pointer (some ⟨ev, 0, none⟩), undef, undef, undef, undef, (.iface 219 (.agg #[.int .i64 er])), undef, undef, undef, undef, undef, undef, undef, undef, undef, undef, undef, undef, undef, undef, undef, undef, undef, undef, undef, undef, undef, undef, undef] := by simp [Array.replicate, List.replicate]
 rw [ht]
 have HB : Below w.heap.size w (w.alloc (.cells #[.int .i64 er] 219)) := (Below.refl _ w).alloc (Nat.le_refl _) _
 have hl : (w.alloc (.cells #[.int .i64 er] 219)).cell? ⟨w.heap.size, 0, none⟩ = some (.int .i64 er) := by simp [go_sem]
 have k2 := (HB.cell (p := ⟨rv, 0, none⟩) l1).trans h2
 have k4 := (HB.cell (p := ⟨xv, 0, none⟩) l2).trans h4
 have k5 := (HB.frozen (p := ⟨xv, 0, none⟩) l2).trans h5
 have k6 := (HB.cell (p := ⟨ev, 0, none⟩) l3).trans h6
 have k7 := (HB.frozen (p := ⟨ev, 0, none⟩) l3).trans h7
 have k8 := (HB.cell (p := ⟨rb, ro, none⟩) l4).trans h8
 have k9 := (HB.frozen (p := ⟨rb, ro, none⟩) l4).trans h9
 have k10 := (HB.cell (p := ⟨rb, ro + 1, none⟩) l4).trans h10
 have k11 := (HB.frozen (p := ⟨rb, ro + 1, none⟩) l4).trans h11
 have n1 : w.heap.size ≠ xv := by omega
 have n2 : w.heap.size ≠ ev := by omega
 have n3 : rb ≠ w.heap.size := by omega
 go_wp2
 clear HB h2 h4 h5 h6 h7 h8 h9 h10 h11 l1 l2 l3 l4
 generalize w.heap.size = lb at *
 generalize hw1 : w.alloc (.cells #[.int .i64 er] 219) = w1 at *
 have HW1 := Go.Lib.hid hw1
 clear hw1
 have q2 : (⟨xv, 0, none⟩ : Addr) ≠ ⟨rv, 0, none⟩ := fun e => d1 (congrArg Addr.block e)
 have q3 : (⟨ev, 0, none⟩ : Addr) ≠ ⟨rv, 0, none⟩ := fun e => d2 (congrArg Addr.block e)
 go_region_o
 all_goals go_wp2
 have f1 : ∀ (a : Addr) (v : Value), a.block ≠ xv → a.block ≠ ev → w1.cell? a = some v → (((w1.setCell ⟨xv, 0, none⟩ (.slice none 0 0)).setCell ⟨ev, 0, none⟩ (.int .i64 er)).drew).cell? a = some v := by
  intro a v a1 a2 h
  have e1 : (⟨ev, 0, none⟩ : Addr) ≠ a := fun e => a2 (by rw [← e])
  have e2 : (⟨xv, 0, none⟩ : Addr) ≠ a := fun e => a1 (by rw [← e])
  show ((w1.setCell ⟨xv, 0, none⟩ (.slice none 0 0)).setCell ⟨ev, 0, none⟩ (.int .i64 er)).cell? a = some v
  rw [World.cell?_setCell_other _ _ _ _ e1, World.cell?_setCell_other _ _ _ _ e2]; exact h
 have f2 : ∀ (a : Addr), w1.frozen? a = false → (((w1.setCell ⟨xv, 0, none⟩ (.slice none 0 0)).setCell ⟨ev, 0, none⟩ (.int .i64 er)).drew).frozen? a = false := by
  intro a h
  show ((w1.setCell ⟨xv, 0, none⟩ (.slice none 0 0)).setCell ⟨ev, 0, none⟩ (.int .i64 er)).frozen? a = false
  simp [go_sem, h]
 have z2 := f1 _ _ (Ne.symm d1) (Ne.symm d2) k2
 have z8 := f1 _ _ (Ne.symm d4) (Ne.symm d5) k8
 have z9 := f2 _ k9
 have z10 := f1 _ _ (Ne.symm d4) (Ne.symm d5) k10
 have z11 := f2 _ k11
 have zl := f1 _ _ n1 n2 hl
 clear f1 f2 k2 k4 k5 k6 k7 k8 k9 k10 k11 hl q2 q3
 generalize hw2 : ((w1.setCell ⟨xv, 0, none⟩ (.slice none 0 0)).setCell ⟨ev, 0, none⟩ (.int .i64 er)).drew = w2 at *
 have HW2 := Go.Lib.hid hw2
 clear hw2
 have q4 : (⟨rb, ro, none⟩ : Addr) ≠ ⟨lb, 0, none⟩ := fun e => n3 (congrArg Addr.block e)
 have q5 : (⟨rb, ro, none⟩ : Addr) ≠ ⟨rv, 0, none⟩ := fun e => d6 (congrArg Addr.block e)
 go_region_o
 all_goals go_wp2
 have e1 : w.alloc (.cells #[.int .i64 er] 219) = w1 := HW1
 have e2 : ((w1.setCell ⟨xv, 0, none⟩ (.slice none 0 0)).setCell ⟨ev, 0, none⟩ (.int .i64 er)).drew = w2 := HW2
 refine ⟨rfl, _, rfl, .tuple #[], ?_, rfl, rfl, ?_⟩
 · simp [results, Tryz.results171]
 · rw [e1, ← e2]; rfl
set_option maxHeartbeats 2000000 in
theorem readL_lack (rb ro : Nat) (h : FuncId) (cap : Array Value) (s : ByteArray) (er : Int) (w : World) (hr0 : rb < w.heap.size) (h1 : w.cell? ⟨rb, ro, none⟩ = some (.string s)) (h2 : w.cell? ⟨rb, ro + 1, none⟩ = some (.int .i64 0)) (h3 : w.frozen? ⟨rb, ro, none⟩ = false) (h4 : w.frozen? ⟨rb, ro + 1, none⟩ = false)
 (he : ∀ args w, (callFunc h args).run Tryz.prog w = .ok (.enter h args) w) (H : HowLack h cap s er w) :
 Calls Tryz.prog 162 #[.pointer (some ⟨rb, ro, none⟩), .func (.func h) #[] cap] w (LackPost rb ro er (.slice none 0 0) w) := by
 have hmf : ∀ (fn : Fn) (first cap : Array Value) (w : World), (Instr.makeFunc fn first cap).run Tryz.prog w = .ok (.func fn first cap) w := fun _ _ _ _ => rfl
 have k1 : ∀ o1 o2 o3, (((w.alloc o1).alloc o2).alloc o3).cell? ⟨rb, ro, none⟩ = some (.string s) := fun o1 o2 o3 =>
  ((((Below.refl _ w).alloc (Nat.le_refl _) o1).alloc (by simp) o2).alloc (by simp; omega) o3).cell (p := ⟨rb, ro, none⟩) hr0 |>.trans h1
 have k2 : ∀ o1 o2 o3, (((w.alloc o1).alloc o2).alloc o3).cell? ⟨rb, ro + 1, none⟩ = some (.int .i64 0) := fun o1 o2 o3 =>
  ((((Below.refl _ w).alloc (Nat.le_refl _) o1).alloc (by simp) o2).alloc (by simp; omega) o3).cell (p := ⟨rb, ro + 1, none⟩) hr0 |>.trans h2
 have HH := Go.Lib.hid H
 have HR := Go.Lib.hid hr0
 clear H hr0
 go_enter_defers Tryz.func162, Tryz.ntmps162
 go_wp2
 generalize hW : ((((w.alloc (Obj.cells #[Value.pointer (some { block := rb, off := ro })] 100)).alloc (Obj.cells #[(.slice none 0 0)] 60)).alloc (Obj.cells #[.int .i64 0] 37)).alloc (Obj.cells #[Value.string s] 174)).alloc (Obj.cells #[Value.pointer (some { block := w.heap.size + 1 + 1 + 1, off := 0 })] 171) = W
 have hr0 : rb < w.heap.size := HR
 obtain ⟨b0, b1, b2, b3, b4, hsz⟩ := chain5 w _ _ _ _ _ W hW
 have hBW : Below w.heap.size w W := by
  rw [← hW]
  exact (((((Below.refl _ w).alloc (Nat.le_refl _) _).alloc (by simp) _).alloc (by simp; omega) _).alloc (by simp; omega) _).alloc (by simp; omega) _
 clear hW k1 k2
 have c3 : W.cell? ⟨w.heap.size + 1 + 1 + 1, 0, none⟩ = some (.string s) := cell_one b3
 refine ((HH : HowLack h cap s er w) (w.heap.size + 1 + 1 + 1) W hBW (by omega) (by omega) c3 (froz_one b3)).mono ?_
 rintro r w2 ⟨rfl, pv, hB⟩
 have hk : ∀ k, k < w.heap.size + 5 → k ≠ w.heap.size + 1 + 1 + 1 → w2.heap[k]? = W.heap[k]? := fun k h1 h2 => (hB.block k (by omega)).trans (setCell_blk (Ne.symm h2))
 have e0 : w2.heap[w.heap.size]? = _ := (hk _ (by omega) (by omega)).trans b0
 have e1 : w2.heap[w.heap.size + 1]? = _ := (hk _ (by omega) (by omega)).trans b1
 have e2 : w2.heap[w.heap.size + 1 + 1]? = _ := (hk _ (by omega) (by omega)).trans b2
 have hB2 : Below w.heap.size w w2 := (hBW.setCell (p := ⟨w.heap.size + 1 + 1 + 1, 0, none⟩) (by show _ ≤ w.heap.size + 1 + 1 + 1; omega) pv).trans (hB.mono (by omega))
 have hz2 : W.heap.size ≤ w2.heap.size := by have := hB.size; simpa [World.setCell] using this
 clear hk hB b0 b1 b2 b3 b4 c3 hBW
 have er1 : w2.heap[rb]? = w.heap[rb]? := hB2.block rb hr0
 refine leaves_cons (f := 171) (args := #[.pointer (some ⟨w.heap.size + 1 + 1 + 1 + 1, 0, none⟩), .pointer (some ⟨w.heap.size, 0, none⟩), .pointer (some ⟨w.heap.size + 1, 0, none⟩), .pointer (some ⟨w.heap.size + 1 + 1, 0, none⟩)]) (by simp) (by simp [go_sem]) ?_
 refine (caughtL _ _ _ _ rb ro er w2 (cell_one e0) (.slice none 0 0) (.int .i64 0) (.string s) (.int .i64 0) (cell_one e1) (froz_one e1) (cell_one e2) (froz_one e2)
  (cell_blk (a := ⟨rb, ro, none⟩) er1 h1) (froz_blk (a := ⟨rb, ro, none⟩) er1 h3) (cell_blk (a := ⟨rb, ro + 1, none⟩) er1 h2) (froz_blk (a := ⟨rb, ro + 1, none⟩) er1 h4)
  (by omega) (by omega) (by omega) (by omega) (by omega) (by omega) (by omega) (by omega) (by omega) (by omega)).mono ?_
 rintro e u' w3 ⟨rfl, rfl, hw3⟩
 have n1 : rb ≠ w.heap.size + 1 := by omega
 have n2 : rb ≠ w.heap.size + 1 + 1 := by omega
 have lt1 : w.heap.size + 1 < w2.heap.size := by omega
 have lt2 : w.heap.size + 1 + 1 < w2.heap.size := by omega
 have y1 : w3.cell? ⟨w.heap.size + 1, 0, none⟩ = some (.slice none 0 0) := by
  have z : w3.heap[w.heap.size + 1]? = some (Obj.cells #[(.slice none 0 0)] 60) := by
   rw [hw3]
   show ((((((w2.alloc _).setCell _ _).setCell _ _).setCell _ _).setCell _ _)).heap[_]? = _
   rw [setCell_blk (by exact n1), setCell_blk (by exact n1), setCell_blk (by show w.heap.size + 1 + 1 ≠ w.heap.size + 1; omega), blk_setCell (by rw [alloc_get, if_neg (by omega)]; exact e1)]
   rfl
  exact cell_one z
 have y2 : w3.cell? ⟨w.heap.size + 1 + 1, 0, none⟩ = some (.int .i64 er) := by
  have z : w3.heap[w.heap.size + 1 + 1]? = some (Obj.cells #[.int .i64 er] 37) := by
   rw [hw3]
   show ((((((w2.alloc _).setCell _ _).setCell _ _).setCell _ _).setCell _ _)).heap[_]? = _
   rw [setCell_blk (by exact n2), setCell_blk (by exact n2), blk_setCell ((setCell_blk (by show w.heap.size + 1 ≠ w.heap.size + 1 + 1; omega)).trans (by rw [alloc_get, if_neg (by omega)]; exact e2))]
   rfl
  exact cell_one z
 have hB3 : Below w.heap.size ((w.setCell ⟨rb, ro, none⟩ (.string ⟨#[]⟩)).setCell ⟨rb, ro + 1, none⟩ (.int .i64 er)) w3 := by
  rw [hw3]
  exact (below_both (below_both (((((hB2.alloc (by omega) _).setCell (by show w.heap.size ≤ w.heap.size + 1; omega) _).setCell (by show w.heap.size ≤ w.heap.size + 1 + 1; omega) _).drew)) _ _) _ _).drew
 clear hw3 e0 e1 e2 er1 hB2 hz2 lt1 lt2 n1 n2 h1 h2 h3 h4 hsz
 simp [Leaves, settle, results, Tryz.results162, go_sem, y1, y2]
 exact ⟨rfl, hB3⟩
set_option maxHeartbeats 2000000 in
theorem readL_wrong (rb ro : Nat) (how : Value) (er : Int) (w : World) (hr0 : rb < w.heap.size) (h2 : w.cell? ⟨rb, ro + 1, none⟩ = some (.int .i64 er)) (hne : er ≠ 0) :
 Calls Tryz.prog 162 #[.pointer (some ⟨rb, ro, none⟩), how] w fun r w' => r = .returned (.tuple #[(.slice none 0 0), .int .i64 er]) ∧ Below w.heap.size w w' := by
 have mixed := mixed
 have k2 : ∀ o1 o2 o3, (((w.alloc o1).alloc o2).alloc o3).cell? ⟨rb, ro + 1, none⟩ = some (.int .i64 er) := fun o1 o2 o3 =>
  ((((Below.refl _ w).alloc (Nat.le_refl _) o1).alloc (by simp) o2).alloc (by simp; omega) o3).cell (p := ⟨rb, ro + 1, none⟩) hr0 |>.trans h2
 have q1 : (⟨w.heap.size + 1, 0, none⟩ : Addr) ≠ ⟨rb, ro + 1, none⟩ := by intro e; have e := congrArg Addr.block e; simp at e; omega
 have hbne : (er != 0) = true := by simpa using hne
 clear h2 hr0 hne
 go_enter_defers Tryz.func162, Tryz.ntmps162
 go_wp2
 go_region_o
 all_goals go_wp2
 simp [bodyPostD, Leaves, results, Tryz.results162, go_sem]
 exact ((((Below.refl _ w).alloc (Nat.le_refl _) _).alloc (by simp) _).alloc (by simp; omega) _).drew
theorem readL_nil (how : Value) (w : World) :
 Calls Tryz.prog 162 #[.pointer none, how] w fun r w' => r = .returned (.tuple #[(.slice none 0 0), .int .i64 2]) ∧ Below w.heap.size w w' := by
 go_enter_defers Tryz.func162, Tryz.ntmps162
 go_wp2
 simp [bodyPostD, Leaves, results, Tryz.results162, go_sem]
 exact (((Below.refl _ w).alloc (Nat.le_refl _) _).alloc (by simp) _).alloc (by simp; omega) _
end Go.Proofs.Rdr

namespace Go.Proofs.Rdr
open Go Go.RowKit Go.Proofs
theorem owns_mono {w : World} {B B' : Nat} {e : TypeId} {sz : Nat} {v : Value} {n : Nat} {xs : List Value} (h : w.ownsRow B e sz v n xs) (hB : B' ≤ B) : w.ownsRow B' e sz v n xs := by
 refine ⟨h.1, ?_⟩
 rcases h.2 with h2 | ⟨g, cap, cur, h1, h2, h3⟩
 · exact .inl h2
 · exact .inr ⟨g, cap, cur, h1, Nat.le_trans hB h2, h3⟩
set_option maxHeartbeats 2000000 in
theorem readM_ok (rb ro : Nat) (h : FuncId) (cap : Array Value) (s rest : ByteArray) (xs : List Value) (w : World) (hr0 : rb < w.heap.size) (h1 : w.cell? ⟨rb, ro, none⟩ = some (.string s)) (h2 : w.cell? ⟨rb, ro + 1, none⟩ = some (.int .i64 0)) (h3 : w.frozen? ⟨rb, ro, none⟩ = false)
 (he : ∀ args w, (callFunc h args).run Tryz.prog w = .ok (.enter h args) w) (H : HowList h cap s rest xs w) :
 Calls Tryz.prog 162 #[.pointer (some ⟨rb, ro, none⟩), .func (.func h) #[] cap] w fun r w' => ∃ x xc, r = .returned (.tuple #[.slice x xs.length xc, .int .i64 0]) ∧ (xs.length = 0 → x = none ∧ xc = 0) ∧ w'.ownsRow w.heap.size 57 1 (.slice x xs.length xc) xs.length xs ∧ Below w.heap.size (w.setCell ⟨rb, ro, none⟩ (.string rest)) w' := by
 have hmf : ∀ (fn : Fn) (first cap : Array Value) (w : World), (Instr.makeFunc fn first cap).run Tryz.prog w = .ok (.func fn first cap) w := fun _ _ _ _ => rfl
 have k1 : ∀ o1 o2 o3, (((w.alloc o1).alloc o2).alloc o3).cell? ⟨rb, ro, none⟩ = some (.string s) := fun o1 o2 o3 =>
  ((((Below.refl _ w).alloc (Nat.le_refl _) o1).alloc (by simp) o2).alloc (by simp; omega) o3).cell (p := ⟨rb, ro, none⟩) hr0 |>.trans h1
 have k2 : ∀ o1 o2 o3, (((w.alloc o1).alloc o2).alloc o3).cell? ⟨rb, ro + 1, none⟩ = some (.int .i64 0) := fun o1 o2 o3 =>
  ((((Below.refl _ w).alloc (Nat.le_refl _) o1).alloc (by simp) o2).alloc (by simp; omega) o3).cell (p := ⟨rb, ro + 1, none⟩) hr0 |>.trans h2
 have HH := Go.Lib.hid H
 have HR := Go.Lib.hid hr0
 clear H hr0
 go_enter_defers Tryz.func162, Tryz.ntmps162
 go_wp2
 generalize hW : ((((w.alloc (Obj.cells #[Value.pointer (some { block := rb, off := ro })] 100)).alloc (Obj.cells #[(.slice none 0 0)] 60)).alloc (Obj.cells #[.int .i64 0] 37)).alloc (Obj.cells #[Value.string s] 174)).alloc (Obj.cells #[Value.pointer (some { block := w.heap.size + 1 + 1 + 1, off := 0 })] 171) = W
 have hr0 : rb < w.heap.size := HR
 obtain ⟨b0, b1, b2, b3, b4, hsz⟩ := chain5 w _ _ _ _ _ W hW
 have hBW : Below w.heap.size w W := by
  rw [← hW]
  exact (((((Below.refl _ w).alloc (Nat.le_refl _) _).alloc (by simp) _).alloc (by simp; omega) _).alloc (by simp; omega) _).alloc (by simp; omega) _
 clear hW k1 k2
 have c3 : W.cell? ⟨w.heap.size + 1 + 1 + 1, 0, none⟩ = some (.string s) := cell_one b3
 refine ((HH : HowList h cap s rest xs w) (w.heap.size + 1 + 1 + 1) W hBW (by omega) (by omega) c3 (froz_one b3)).mono ?_
 rintro r w1 ⟨x, xc, rfl, hX, hO, hB⟩
 have HX := Go.Lib.hid hX
 clear hX
 rw [hsz] at hO
 have HO := Go.Lib.hid hO
 clear hO
 have hk : ∀ k, k < w.heap.size + 5 → k ≠ w.heap.size + 1 + 1 + 1 → w1.heap[k]? = W.heap[k]? := fun k h1 h2 => (hB.block k (by omega)).trans (setCell_blk (Ne.symm h2))
 have d0 : w1.heap[w.heap.size]? = _ := (hk _ (by omega) (by omega)).trans b0
 have d1 : w1.heap[w.heap.size + 1]? = _ := (hk _ (by omega) (by omega)).trans b1
 have d2 : w1.heap[w.heap.size + 1 + 1]? = _ := (hk _ (by omega) (by omega)).trans b2
 have d3 : w1.heap[w.heap.size + 1 + 1 + 1]? = some (Obj.cells #[Value.string rest] 174) := by
  rw [hB.block _ (by omega), blk_setCell b3]; rfl
 have d4 : w1.heap[w.heap.size + 1 + 1 + 1 + 1]? = _ := (hk _ (by omega) (by omega)).trans b4
 have hB1 : Below w.heap.size w w1 := (hBW.setCell (p := ⟨w.heap.size + 1 + 1 + 1, 0, none⟩) (by show _ ≤ w.heap.size + 1 + 1 + 1; omega) (.string rest)).trans (hB.mono (by omega))
 clear hk hB b0 b1 b2 b3 b4 c3 hBW
 have x1 : w1.cell? ⟨w.heap.size + 1, 0, none⟩ = some (.slice none 0 0) := cell_one d1
 have x2 : w1.frozen? ⟨w.heap.size + 1, 0, none⟩ = false := froz_one d1
 have x3 : w1.cell? ⟨w.heap.size + 1 + 1, 0, none⟩ = some (.int .i64 0) := cell_one d2
 have x4 : w1.frozen? ⟨w.heap.size + 1 + 1, 0, none⟩ = false := froz_one d2
 have HD := Go.Lib.hid d0
 have HD1 := Go.Lib.hid d1
 have HD2 := Go.Lib.hid d2
 have HD3 := Go.Lib.hid d3
 have HD4 := Go.Lib.hid d4
 have HZ := Go.Lib.hid hsz
 have h1 := Go.Lib.hid h1
 have h3 := Go.Lib.hid h3
 clear d0 d1 d2 d3 d4 hsz h2 hr0
 go_wp2
 have hr0 : rb < w.heap.size := HR
 have g0 := (HD : w1.heap[w.heap.size]? = _)
 have g1 := (HD1 : w1.heap[w.heap.size + 1]? = _)
 have g2 := (HD2 : w1.heap[w.heap.size + 1 + 1]? = _)
 have g3 := (HD3 : w1.heap[w.heap.size + 1 + 1 + 1]? = _)
 have g4 := (HD4 : w1.heap[w.heap.size + 1 + 1 + 1 + 1]? = _)
 clear HD HD1 HD2 HD3 HD4 HZ HR HH x1 x2 x3 x4
 generalize hw2 : (w1.setCell { block := w.heap.size + 1, off := 0 } (.slice x xs.length xc)).setCell { block := w.heap.size + 1 + 1, off := 0 } (Value.int IntKind.i64 0) = w2
 have ho : ∀ k, k ≠ w.heap.size + 1 → k ≠ w.heap.size + 1 + 1 → w2.heap[k]? = w1.heap[k]? := fun k a1 a2 => by rw [← hw2, setCell_blk (by exact Ne.symm a2), setCell_blk (by exact Ne.symm a1)]
 have e0 := (ho _ (by omega) (by omega)).trans g0
 have e3 := (ho _ (by omega) (by omega)).trans g3
 have e4 := (ho _ (by omega) (by omega)).trans g4
 have e1 : w2.heap[w.heap.size + 1]? = some (Obj.cells #[(.slice x xs.length xc)] 60) := by rw [← hw2, setCell_blk (by show w.heap.size + 1 + 1 ≠ _; omega), blk_setCell g1]; rfl
 have e2 : w2.heap[w.heap.size + 1 + 1]? = some (Obj.cells #[.int .i64 0] 37) := by rw [← hw2, blk_setCell ((setCell_blk (by show w.heap.size + 1 ≠ _; omega)).trans g2)]; rfl
 have hB2 : Below w.heap.size w w2 := by rw [← hw2]; exact (hB1.setCell (by show _ ≤ w.heap.size + 1; omega) _).setCell (by show _ ≤ w.heap.size + 1 + 1; omega) _
 have er : w2.heap[rb]? = w.heap[rb]? := hB2.block rb hr0
 have o2 : w2.ownsRow (w.heap.size + 5) 57 1 (.slice x xs.length xc) xs.length xs := owns_past HO.out fun g a1 _ => ho g (by omega) (by omega)
 clear hw2 ho g0 g1 g2 g3 g4 hB1
 clear HO
 refine leaves_cons (f := 171) (args := #[.pointer (some ⟨w.heap.size + 1 + 1 + 1 + 1, 0, none⟩), .pointer (some ⟨w.heap.size, 0, none⟩), .pointer (some ⟨w.heap.size + 1, 0, none⟩), .pointer (some ⟨w.heap.size + 1 + 1, 0, none⟩)]) (by simp) (by simp [go_sem]) ?_
 refine (idleL _ _ _ _ (w.heap.size + 1 + 1 + 1) rb ro rest w2 (cell_one e4) (cell_one e0) (cell_one e3) (.string s) (cell_blk (a := ⟨rb, ro, none⟩) er h1) (froz_blk (a := ⟨rb, ro, none⟩) er h3)).mono ?_
 rintro e u' w3 ⟨rfl, rfl, rfl⟩
 have y1 : (w2.drew.setCell ⟨rb, ro, none⟩ (.string rest)).cell? ⟨w.heap.size + 1, 0, none⟩ = some (.slice x xs.length xc) := cell_blk (w := w2) (setCell_blk (by show rb ≠ w.heap.size + 1; omega)) (cell_one e1)
 have y2 : (w2.drew.setCell ⟨rb, ro, none⟩ (.string rest)).cell? ⟨w.heap.size + 1 + 1, 0, none⟩ = some (.int .i64 0) := cell_blk (w := w2) (setCell_blk (by show rb ≠ w.heap.size + 1 + 1; omega)) (cell_one e2)
 have hB3 : Below w.heap.size (w.setCell ⟨rb, ro, none⟩ (.string rest)) (w2.drew.setCell ⟨rb, ro, none⟩ (.string rest)) := below_both hB2.drew _ _
 have o3 : (w2.drew.setCell ⟨rb, ro, none⟩ (.string rest)).ownsRow (w.heap.size + 5) 57 1 (.slice x xs.length xc) xs.length xs := owns_past o2 fun g a1 _ => setCell_blk (w := w2.drew) (by show rb ≠ g; omega)
 clear o2
 generalize w2.drew.setCell ⟨rb, ro, none⟩ (.string rest) = w3 at *
 clear e0 e1 e2 e3 e4 er hB2
 have o4 := owns_mono o3 (show w.heap.size ≤ w.heap.size + 5 by omega)
 clear o3
 simp [Leaves, settle, results, Tryz.results162, go_sem, y1, y2]
 exact ⟨x, xc, ⟨rfl, rfl⟩, by simpa using HX.out, o4, hB3⟩
end Go.Proofs.Rdr

namespace Go.Am
open Go.RowKit Go.MapKept Go.Proofs Go.Proofs.Rdr
noncomputable def wdsK (n : Nat) : List UInt8 → (List Value → List UInt8 → Bool) → Bool :=
 Nat.rec (motive := fun _ => List UInt8 → (List Value → List UInt8 → Bool) → Bool) (fun l k => k [] l) (fun _ ih l k => takeK 8 l fun h => dropK 8 l fun t => beK h fun x => ih t fun vs rest => k (.int .u64 (.ofNat x) :: vs) rest) n
noncomputable def listK (l : List UInt8) (n : Nat) (ok : List Value → List UInt8 → Bool) (no : Int → Bool) : Bool := match Nat.ble 2 n with
 | true => takeK 2 l fun h => dropK 2 l fun t => beK h fun x => match Nat.ble x 1024 with
  | true => lenK t fun m => match Nat.ble (Nat.mul x 8) m with
   | true => wdsK x t ok
   | false => no (.ofNat 8)
  | false => no (.ofNat 40)
 | false => no (.ofNat 8)
noncomputable def rowK (vs : List Value) (σ : St) (K : VK) : Bool := lenK vs fun n => match n with
 | 0 => K (.tuple ⟨[.slice none 0 0, .int .i64 (.ofNat 0)]⟩) σ
 | n + 1 => newK σ (.cells vs 57 (.grown [])) fun j σ => K (.tuple ⟨[.slice (some ⟨j, 0, some 0⟩) (Nat.succ n) (Nat.succ n), .int .i64 (.ofNat 0)]⟩) σ
noncomputable def rdLK (σ : St) (p : Value) (K : VK) : Bool :=
 match p with
 | .pointer none => K (.tuple ⟨[(.slice none 0 0), .int .i64 (.ofNat 2)]⟩) σ
 | .pointer (some ⟨i, o, none⟩) => cellsK σ i fun vs _ ck => match ck with
  | .exact => nthK vs o fun a => nthK vs (Nat.succ o) fun b => match a, b with
   | .string s, .int .i64 e => match eqI e 0 with
    | true => lenK s.data.toList fun n => match Nat.blt n 9223372036854775808 with
     | true => listK s.data.toList n (fun vs rest => writeK σ i o [.string ⟨⟨rest⟩⟩] fun σ => rowK vs σ K) (fun er => writeK σ i o [.string ⟨⟨[]⟩⟩, .int .i64 er] fun σ => K (.tuple ⟨[(.slice none 0 0), .int .i64 er]⟩) σ)
     | false => false
    | false => K (.tuple ⟨[(.slice none 0 0), .int .i64 e]⟩) σ
   | _, _ => false
  | _ => false
 | _ => false
theorem wvals_cons (l : List UInt8) (k : Nat) : wvals l (k + 1) = .int .u64 ((be (l.take 8) : Nat) : Int) :: wvals (l.drop 8) k := by
 simp only [wvals, wds, List.range_succ_eq_map, List.map_cons, List.map_map]
 refine congr (congrArg _ (by simp)) ?_
 apply List.map_congr_left
 intro x _
 simp only [Function.comp, List.drop_drop]
 rw [show 8 * (x + 1) = 8 + 8 * x by omega]
theorem wdsK_eq : ∀ (n : Nat) (l : List UInt8) (k : List Value → List UInt8 → Bool), n * 8 ≤ l.length → wdsK n l k = k (wvals l n) (l.drop (8 * n)) := by
 intro n
 induction n with
 | zero => intro l k _; rfl
 | succ n ih =>
  intro l k hl
  show takeK 8 l (fun h => dropK 8 l fun t => beK h fun x => wdsK n t fun vs rest => k (.int .u64 (.ofNat x) :: vs) rest) = _
  rw [takeK_eq, if_pos (by omega), dropK_eq, if_pos (by omega), beK_eq, ih _ _ (by rw [List.length_drop]; omega), wvals_cons, List.drop_drop, show 8 + 8 * n = 8 * (n + 1) by omega]
  rfl
theorem size64 : sizeT Tryz.prog 57 = some 1 := by kernel_rfl
theorem wvals_flat (l : List UInt8) (n : Nat) : ∀ v ∈ wvals l n, flat0 v = true := by
 intro v hv
 simp only [wvals, List.mem_map] at hv
 obtain ⟨x, _, rfl⟩ := hv
 rfl
section
variable {w0 : World} {ρ : Rn} {σ : St} {w : World}
theorem list_spec (s : ByteArray) (ok : List Value → List UInt8 → Bool) (no : Int → Bool) (hs : s.size < 9223372036854775808) (hk : listK s.data.toList s.size ok no = true) :
 (∃ (xs : List Value) (rest : ByteArray), ok xs rest.data.toList = true ∧ (∀ v ∈ xs, flat0 v = true) ∧ HowList 163 #[] s rest xs w) ∨ ∃ er, no er = true ∧ HowLack 163 #[] s er w := by
 unfold listK at hk
 split at hk
 · rename_i hn
   have hn := Nat.le_of_ble_eq_true hn
   have hl : 2 ≤ s.data.toList.length := hn
   rw [takeK_eq, if_pos hl, dropK_eq, if_pos hl, beK_eq] at hk
   have e1 := ext_drop s 2
   have hsz1 : (s.extract 2 s.size).size = (s.data.toList.drop 2).length := by rw [← e1]; rfl
   split at hk
   · rename_i hle
     have hle := Nat.le_of_ble_eq_true hle
     rw [lenK_eq] at hk
     split at hk
     · rename_i hle2
       have hle2 : be (s.data.toList.take 2) * 8 ≤ (s.data.toList.drop 2).length := Nat.le_of_ble_eq_true hle2
       rw [wdsK_eq _ _ _ hle2, ← e1, ← ext_drop] at hk
       exact .inl ⟨_, _, hk, wvals_flat _ _, how_list s _ _ w rfl rfl hle hn hs (by rw [hsz1]; exact hle2)⟩
     · rename_i hle2
       exact .inr ⟨8, hk, how_list_cut s _ _ w rfl rfl hle hn hs (by rw [hsz1]; have h9 : ¬ be (s.data.toList.take 2) * 8 ≤ (s.data.toList.drop 2).length := Nat.not_le_of_not_ble_eq_true (fun h9 => by have h9 : Nat.ble (Nat.mul (be (s.data.toList.take 2)) 8) (s.data.toList.drop 2).length = true := h9; rw [hle2] at h9; cases h9); exact Nat.lt_of_not_le h9)⟩
   · rename_i hle
     exact .inr ⟨40, hk, how_list_large s w hn hs (by have := Nat.not_le_of_not_ble_eq_true (by rw [hle]; decide); omega)⟩
 · rename_i hn
   exact .inr ⟨8, hk, how_list_short s w (by have := Nat.not_le_of_not_ble_eq_true (by rw [hn]; decide); omega)⟩
theorem rdL_sound (hrel : Rel Tryz.prog w0 ρ σ w) (hent : ∀ args w, (callFunc 163 args).run Tryz.prog w = .ok (.enter 163 args) w) {p p' : Value} (hv : VR ρ p p') {K : VK} (hk : rdLK σ p K = true) :
 Calls Tryz.prog 162 #[p', .func (.func 163) #[] #[]] w (Back Tryz.prog w0 ρ w K) := by
 unfold rdLK at hk
 split at hk
 · cases hv.of_flat rfl
   refine (readL_nil _ w).mono ?_
   rintro e w' ⟨rfl, hb⟩
   obtain ⟨r1, r2⟩ := hrel.below hb
   exact ⟨_, rfl, ρ, _, σ, hk, tup2 rfl rfl, r1, r2⟩
 · rename_i i o
   obtain ⟨_, L, hL, rfl⟩ := hv.ptr_inv
   obtain ⟨vs, e, ck, ho, hk⟩ := cellsK_true hk
   split at hk
   · obtain ⟨a, hao, hk⟩ := nthK_true' hk
     obtain ⟨b, hbo, hk⟩ := nthK_true' hk
     obtain ⟨cs, t, fz, hb, hcv, g1, g2, g3, g4, g5⟩ := hrel.cells ho hL
     obtain ⟨a', ha', har⟩ := hcv o a hao
     obtain ⟨b', hb', hbr⟩ := hcv (o + 1) b hbo
     have hlt : L.b < w.heap.size := hrel.loc i L hL
     have c0 : w.cell? ⟨L.b, L.s + o, none⟩ = some a' := cell_of hb ha'
     have c1 : w.cell? ⟨L.b, L.s + o + 1, none⟩ = some b' := cell_of hb hb'
     have f0 : w.frozen? ⟨L.b, L.s + o, none⟩ = false := frozen_exact hb g4 (Array.getElem?_eq_some_iff.1 ha').1
     have f1 : w.frozen? ⟨L.b, L.s + o + 1, none⟩ = false := frozen_exact hb g4 (Array.getElem?_eq_some_iff.1 hb').1
     have key : ∃ s er, a = .string s ∧ b = .int .i64 er := by
      revert hk
      cases a <;> cases b <;> first | (intro hk; cases hk; done) | skip
      rename_i s k er
      cases k <;> first | (intro hk; cases hk; done) | (intro _; exact ⟨_, _, rfl, rfl⟩)
     obtain ⟨s, er, rfl, rfl⟩ := key
     · cases har.of_flat rfl
       cases hbr.of_flat rfl
       dsimp only at hk
       split at hk
       · rename_i he
         rw [eqI_eq] at he
         have he := eq_of_beq he
         subst he
         rw [lenK_eq] at hk
         split at hk
         · rename_i hn
           have hn : s.size < 9223372036854775808 := Nat.le_of_ble_eq_true hn
           rcases list_spec (w := w) s _ _ hn hk with ⟨xs, rest, hk, hfl, H⟩ | ⟨er, hk, H⟩
           · obtain ⟨σ', w1, hk, r1, r2, hrun⟩ := writeK_sound hrel hk hL (VRs.cons (.flat (v := .string rest) rfl) (.nil ρ)) (by intro v hv; simp at hv; subst hv; rfl)
             have hset : (storeCells ⟨L.b, L.s + o, none⟩ [.string rest]).run Tryz.prog w = .ok () (w.setCell ⟨L.b, L.s + o, none⟩ (.string rest)) := by
              simp only [storeCells, add_none, Nat.add_zero]
              rw [Sem.run_bind, run_store Tryz.prog w _ _ .plain rfl, c0, f0]
              rfl
             rw [hset] at hrun
             injection hrun with _ hrun
             subst hrun
             refine (readM_ok L.b (L.s + o) 163 #[] s rest xs w hlt c0 c1 f0 hent H).mono ?_
             rintro e w' ⟨x, xc, rfl, hX, hown, hbl⟩
             have hbl' := hbl.mono (show (w.setCell ⟨L.b, L.s + o, none⟩ (.string rest)).heap.size ≤ w.heap.size by simp [World.setCell])
             unfold rowK at hk
             rw [lenK_eq] at hk
             split at hk
             · rename_i h0
               obtain ⟨q1, q2⟩ := r1.below hbl'
               obtain ⟨rfl, rfl⟩ := hX h0
               rw [h0]
               exact ⟨_, rfl, ρ, _, σ', hk, tup2 rfl rfl, q1, r2.trans q2⟩
             · rename_i n' hn'
               rw [newK_eq] at hk
               rcases hown.2 with ⟨_, h0⟩ | ⟨g, cap, cur, hv0, hg, hcur, hnc, hcm, hcs, htk⟩
               · omega
               · injection hv0 with z1 z2 z3
                 subst z1 z3
                 obtain ⟨h1, h2⟩ := r1.belowRow hbl' size64 (by simpa [World.setCell] using hg) hcur (VRs.flat hfl) (by simpa using htk)
                 refine ⟨_, rfl, _, _, _, hk, ?_, h1, r2.trans h2⟩
                 rw [hn']
                 refine .mk_tuple (VRs.cons ?_ (VRs.cons (.flat rfl) (.nil _)))
                 have := VR.sliceIn (ρ := ρ.put σ'.n ⟨g, 0, cur.size, 1⟩) (i := σ'.n) (o := 0) (n := n' + 1) (c := n' + 1) (c' := xc) (Rn.put_same _ _ _) (by omega) (Nat.le_refl _) (by simp [hcs]) (by simp)
                 simpa using this
           · obtain ⟨σ', w1, hk, r1, r2, hrun⟩ := writeK_sound hrel hk hL (VRs.cons (.flat (v := .string ⟨#[]⟩) rfl) (VRs.cons (.flat (v := .int .i64 er) rfl) (.nil ρ))) (by intro v hv; simp at hv; rcases hv with rfl | rfl <;> rfl)
             have hset : (storeCells ⟨L.b, L.s + o, none⟩ [.string ⟨#[]⟩, .int .i64 er]).run Tryz.prog w = .ok () ((w.setCell ⟨L.b, L.s + o, none⟩ (.string ⟨#[]⟩)).setCell ⟨L.b, L.s + o + 1, none⟩ (.int .i64 er)) := by
              have d1 : (w.setCell ⟨L.b, L.s + o, none⟩ (.string ⟨#[]⟩)).cell? ⟨L.b, L.s + o + 1, none⟩ = some (.int .i64 0) := by
               rw [World.cell?_setCell_other _ _ _ _ (by intro e; injection e with _ e; omega)]; exact c1
              have d2 : (w.setCell ⟨L.b, L.s + o, none⟩ (.string ⟨#[]⟩)).frozen? ⟨L.b, L.s + o + 1, none⟩ = false := by rw [World.frozen?_setCell]; exact f1
              simp only [storeCells, add_none, Nat.add_zero]
              rw [Sem.run_bind, run_store Tryz.prog w _ _ .plain rfl, c0, f0]
              simp only [Result.andThen]
              simp only [Bool.false_eq_true, if_false, Nat.zero_add]
              rw [Sem.run_bind, run_store Tryz.prog _ _ _ .plain rfl, Nat.add_assoc] at *
              rw [d1, d2]
              rfl
             rw [hset] at hrun
             injection hrun with _ hrun
             subst hrun
             refine (readL_lack L.b (L.s + o) 163 #[] s er w hlt c0 c1 f0 f1 hent H).mono ?_
             rintro e w' ⟨rfl, hbl⟩
             obtain ⟨q1, q2⟩ := r1.below (w' := w') (hbl.mono (by simp [World.setCell]))
             exact ⟨_, rfl, ρ, _, σ', hk, tup2 rfl rfl, q1, r2.trans q2⟩
         · cases hk
       · rename_i he
         have he' : er ≠ 0 := by
          intro e; subst e
          exact absurd he (by decide)
         refine (readL_wrong L.b (L.s + o) _ er w hlt c1 he').mono ?_
         rintro e w' ⟨rfl, hbl⟩
         obtain ⟨q1, q2⟩ := hrel.below hbl
         exact ⟨_, rfl, ρ, _, σ, hk, tup2 rfl rfl, q1, q2⟩
   · cases hk
 · cases hk
end
end Go.Am

namespace Go.Proofs
open Go.Shelf
def Tryz.lays167_ren : Go.Shelf.Ren := ⟨fun | 167 => 139 | 240 => 136 | 276 => 138 | n => n, fun | 0 => 0 | 4 => 4 | 5 => 5 | 9 => 9 | 20 => 20 | 37 => 92 | 70 => 91 | 72 => 94 | 75 => 250 | 80 => 99 | 164 => 255 | n => n, fun | n => n⟩
theorem Tryz.lays167 : Go.Proofs.Lays.n167 Tryz.prog Tryz.lays167_ren := {
 mixed := by kernel_rfl
 f167 := Tryz.func139.trans (congrArg some (by kernel_rfl))
 f240 := Tryz.func136.trans (congrArg some (by kernel_rfl))
 f276 := Tryz.func138.trans (congrArg some (by kernel_rfl))
 t0 := Tryz.underlying0
 a0 := Tryz.isAgg0
 z0 := Tryz.sizeOf0
 v0 := Tryz.zeroValue0
 t4 := Tryz.underlying4
 a4 := Tryz.isAgg4
 z4 := Tryz.sizeOf4
 v4 := Tryz.zeroValue4
 t5 := Tryz.underlying5
 a5 := Tryz.isAgg5
 z5 := Tryz.sizeOf5
 v5 := Tryz.zeroValue5
 t9 := Tryz.underlying9
 a9 := Tryz.isAgg9
 z9 := Tryz.sizeOf9
 v9 := Tryz.zeroValue9
 t20 := Tryz.underlying20
 a20 := Tryz.isAgg20
 z20 := Tryz.sizeOf20
 v20 := Tryz.zeroValue20
 t37 := Tryz.underlying92
 a37 := Tryz.isAgg92
 z37 := Tryz.sizeOf92
 v37 := Tryz.zeroValue92
 t70 := Tryz.underlying91
 a70 := Tryz.isAgg91
 z70 := Tryz.sizeOf91
 v70 := Tryz.zeroValue91
 t72 := Tryz.underlying94
 a72 := Tryz.isAgg94
 z72 := Tryz.sizeOf94
 v72 := Tryz.zeroValue94
 t75 := Tryz.underlying250
 a75 := Tryz.isAgg250
 z75 := Tryz.sizeOf250
 v75 := Tryz.zeroValue250
 t164 := Tryz.underlying255
 a164 := Tryz.isAgg255
 z164 := Tryz.sizeOf255
 v164 := Tryz.zeroValue255 }
theorem Tryz.Builder_Extra_167 : Builder.Extra Tryz.prog Tryz.lays167_ren := {
 sizeBuilder := by kernel_rfl
 liesBuilder := by kernel_rfl
 t5 := Tryz.underlying5
 a5 := Tryz.isAgg5
 z5 := Tryz.sizeOf5
 v5 := Tryz.zeroValue5
 infoByte := by kernel_rfl
 cellsByte := by kernel_rfl
 sizeByte := by kernel_rfl
 neB5 := by decide }
open Go.RowKit in
theorem Tryz.Builder_WriteByte_k (B b : Nat) (bs : List Value) (c : Int) (w : World) (h : Lib.IsBuilderF 94 5 B b bs w) (hlen : bs.length + 1 ≤ 140737488355328) (hBw : B ≤ w.heap.size) :
 Calls Tryz.prog 139 #[.pointer (some ⟨b, 0, none⟩), .int .u8 c] w fun e w' => e = .returned .nilIface ∧ (Lib.BuilderAtF 94 5 B b (.pointer (some ⟨b, 0, none⟩)) (bs ++ [.int .u8 c]) w' ∧ Below B w w' ∧ Lib.OthersKept 5 (some b) w w') := Any.Builder_WriteByte_k Tryz.lays167 Tryz.Builder_Extra_167 B b bs c w h hlen hBw
def Tryz.lays166_ren : Go.Shelf.Ren := ⟨fun | 166 => 130 | 240 => 136 | 276 => 138 | n => n, fun | 0 => 0 | 3 => 3 | 4 => 4 | 5 => 5 | 9 => 9 | 20 => 20 | 37 => 92 | 70 => 91 | 72 => 94 | 75 => 250 | 80 => 99 | 164 => 255 | n => n, fun | n => n⟩
theorem Tryz.lays166 : Go.Proofs.Lays.n166 Tryz.prog Tryz.lays166_ren := {
 mixed := by kernel_rfl
 f166 := Tryz.func130.trans (congrArg some (by kernel_rfl))
 f240 := Tryz.func136.trans (congrArg some (by kernel_rfl))
 f276 := Tryz.func138.trans (congrArg some (by kernel_rfl))
 t0 := Tryz.underlying0
 a0 := Tryz.isAgg0
 z0 := Tryz.sizeOf0
 v0 := Tryz.zeroValue0
 t3 := Tryz.underlying3
 a3 := Tryz.isAgg3
 z3 := Tryz.sizeOf3
 v3 := Tryz.zeroValue3
 t4 := Tryz.underlying4
 a4 := Tryz.isAgg4
 z4 := Tryz.sizeOf4
 v4 := Tryz.zeroValue4
 t9 := Tryz.underlying9
 a9 := Tryz.isAgg9
 z9 := Tryz.sizeOf9
 v9 := Tryz.zeroValue9
 t20 := Tryz.underlying20
 a20 := Tryz.isAgg20
 z20 := Tryz.sizeOf20
 v20 := Tryz.zeroValue20
 t37 := Tryz.underlying92
 a37 := Tryz.isAgg92
 z37 := Tryz.sizeOf92
 v37 := Tryz.zeroValue92
 t70 := Tryz.underlying91
 a70 := Tryz.isAgg91
 z70 := Tryz.sizeOf91
 v70 := Tryz.zeroValue91
 t72 := Tryz.underlying94
 a72 := Tryz.isAgg94
 z72 := Tryz.sizeOf94
 v72 := Tryz.zeroValue94
 t75 := Tryz.underlying250
 a75 := Tryz.isAgg250
 z75 := Tryz.sizeOf250
 v75 := Tryz.zeroValue250
 t164 := Tryz.underlying255
 a164 := Tryz.isAgg255
 z164 := Tryz.sizeOf255
 v164 := Tryz.zeroValue255 }
theorem Tryz.Builder_Extra_166 : Builder.Extra Tryz.prog Tryz.lays166_ren := {
 sizeBuilder := by kernel_rfl
 liesBuilder := by kernel_rfl
 t5 := Tryz.underlying5
 a5 := Tryz.isAgg5
 z5 := Tryz.sizeOf5
 v5 := Tryz.zeroValue5
 infoByte := by kernel_rfl
 cellsByte := by kernel_rfl
 sizeByte := by kernel_rfl
 neB5 := by decide }
open Go.RowKit in
theorem Tryz.Builder_WriteString_k (B b : Nat) (bs : List Value) (s : ByteArray) (w : World) (h : Lib.IsBuilderF 94 5 B b bs w) (hlen : bs.length + s.size ≤ 140737488355328) (hBw : B ≤ w.heap.size) :
 Calls Tryz.prog 130 #[.pointer (some ⟨b, 0, none⟩), .string s] w fun e w' => e = .returned (.tuple #[.int .i64 s.size, .nilIface]) ∧ (Lib.BuilderAtF 94 5 B b (.pointer (some ⟨b, 0, none⟩)) (bs ++ Lib.strCells s) w' ∧ Below B w w' ∧ Lib.OthersKept 5 (some b) w w') := Any.Builder_WriteString_k Tryz.lays166 Tryz.Builder_Extra_166 B b bs s w h hlen hBw
def Tryz.lays169_ren : Go.Shelf.Ren := ⟨fun | 169 => 30 | n => n, fun | 0 => 0 | 3 => 3 | 5 => 5 | 9 => 9 | 37 => 92 | 70 => 91 | 72 => 94 | 127 => 166 | n => n, fun | n => n⟩
theorem Tryz.lays169 : Go.Proofs.Lays.n169 Tryz.prog Tryz.lays169_ren := {
 mixed := by kernel_rfl
 f169 := Tryz.func30.trans (congrArg some (by kernel_rfl))
 t0 := Tryz.underlying0
 a0 := Tryz.isAgg0
 z0 := Tryz.sizeOf0
 v0 := Tryz.zeroValue0
 t3 := Tryz.underlying3
 a3 := Tryz.isAgg3
 z3 := Tryz.sizeOf3
 v3 := Tryz.zeroValue3
 t9 := Tryz.underlying9
 a9 := Tryz.isAgg9
 z9 := Tryz.sizeOf9
 v9 := Tryz.zeroValue9
 t37 := Tryz.underlying92
 a37 := Tryz.isAgg92
 z37 := Tryz.sizeOf92
 v37 := Tryz.zeroValue92
 t70 := Tryz.underlying91
 a70 := Tryz.isAgg91
 z70 := Tryz.sizeOf91
 v70 := Tryz.zeroValue91
 t72 := Tryz.underlying94
 a72 := Tryz.isAgg94
 z72 := Tryz.sizeOf94
 v72 := Tryz.zeroValue94
 t127 := Tryz.underlying166
 a127 := Tryz.isAgg166
 z127 := Tryz.sizeOf166
 v127 := Tryz.zeroValue166 }
theorem Tryz.Builder_Extra_169 : Builder.Extra Tryz.prog Tryz.lays169_ren := {
 sizeBuilder := by kernel_rfl
 liesBuilder := by kernel_rfl
 t5 := Tryz.underlying5
 a5 := Tryz.isAgg5
 z5 := Tryz.sizeOf5
 v5 := Tryz.zeroValue5
 infoByte := by kernel_rfl
 cellsByte := by kernel_rfl
 sizeByte := by kernel_rfl
 neB5 := by decide }
open Go.RowKit in
theorem Tryz.Builder_String_any_k (B b : Nat) (l : List UInt8) (w : World) (h : Lib.IsBuilderF 94 5 B b (Lib.byteCells l) w) (hBw : B ≤ w.heap.size) :
 Calls Tryz.prog 30 #[.pointer (some ⟨b, 0, none⟩)] w fun e w' => e = .returned (.string ⟨l.toArray⟩) ∧ (Lib.IsBuilderF 94 5 B b (Lib.byteCells l) w' ∧ Below B w w' ∧ Lib.OthersKept 5 (some b) w w') := Any.Builder_String_any_k Tryz.lays169 Tryz.Builder_Extra_169 B b l w h hBw
end Go.Proofs

namespace Go.Proofs.Rdr
open Go Go.RowKit Go.Proofs
def beb : Nat → Nat → List UInt8
 | 0, _ => []
 | k + 1, n => UInt8.ofNat (n / 256 ^ k) :: beb k n
set_option maxHeartbeats 4000000 in
set_option maxRecDepth 1000000 in
theorem put_ok (s : ByteArray) (n k : Nat) (w : World) (_hn : n < 18446744073709551616) (hk : k ≤ 8) (hs : s.size ≤ 35184372088832) :
 Calls Tryz.prog 137 #[.string s, .int .u64 n, .int .i64 k] w fun e w' => e = .returned (.string ⟨(s.data.toList ++ beb k n).toArray⟩) ∧ Below w.heap.size w w' := by
 go_enter Tryz.func137, Tryz.ntmps137
 have hI := Lib.IsBuilderF.of (Lib.fresh_isBuilder 94 5 w)
 have hb0 : Below w.heap.size w (w.alloc (.cells #[.pointer none, .slice none 0 0] 94)) := (Below.refl _ w).alloc (Nat.le_refl _) _
 have C := Tryz.Builder_WriteString_k w.heap.size w.heap.size [] s _ hI (by simp only [List.length_nil]; omega) (by show w.heap.size ≤ (w.heap.push _).size; rw [Array.size_push]; omega)
 go_wp2_with (go_at_call 130; refine C.mono ?_)
 rintro e W1 ⟨rfl, h1, b1, k1⟩
 go_wp2
 go_loopw [2] (fun v wr => ∃ (j : Nat) (acc : List UInt8), j ≤ 8 ∧ v = .int .i64 j ∧ Lib.IsBuilderF 94 5 w.heap.size w.heap.size (Lib.byteCells acc) wr ∧ Below w.heap.size w wr ∧ acc ++ beb j n = s.data.toList ++ beb k n ∧ acc.length + j = s.size + k) (fun v _ => (intOf v).toNat)
 case atStart =>
  refine ⟨k, s.data.toList, hk, rfl, ?_, hb0.trans b1, rfl, by rw [Array.length_toList]; rfl⟩
  exact Or.inr h1
 case round =>
  obtain ⟨j, acc, hj, rfl, hJ, hbw, hacc, hlen⟩ := hrel
  cases j with
  | zero =>
   have C2 := Tryz.Builder_String_any_k w.heap.size w.heap.size acc wr hJ hbw.size
   go_wp2_with (go_at_call 30; refine C2.mono ?_)
   rintro e W2 ⟨rfl, _, b2, _⟩
   go_wp2
   go_ret
   exact ⟨by rw [← hacc]; simp [beb], hbw.trans b2⟩
  | succ j =>
   have C3 := Tryz.Builder_WriteByte_k w.heap.size w.heap.size (Lib.byteCells acc) ((n : Int) / 2 ^ (8 * j) % 256) wr hJ (by rw [Lib.byteCells_length]; omega) hbw.size
   go_wp2_with (go_at_call 139; refine C3.mono ?_)
   rintro e W2 ⟨rfl, h2, b2, _⟩
   go_wp2
   go_roundw
   case rel =>
    refine ⟨j, acc ++ [UInt8.ofNat (n / 256 ^ j)], by omega, by go_num, ?_, hbw.trans b2, ?_, ?_⟩
    · refine Or.inr ?_
      rw [Lib.byteCells_append, show Lib.byteCells [UInt8.ofNat (n / 256 ^ j)] = [.int .u8 ((n : Int) / 2 ^ (8 * j) % 256)] from ?_]
      · exact h2
      · have e1 : (256 : Nat) ^ j = 2 ^ (8 * j) := by rw [Nat.pow_mul]
        have e2 : (UInt8.ofNat (n / 2 ^ (8 * j))).toNat = n / 2 ^ (8 * j) % 256 := by simp
        simp only [Lib.byteCells, List.map_cons, List.map_nil, e1, e2]
        norm_cast
    · rw [← hacc]; simp [beb]
    · rw [List.length_append]; simp only [List.length_cons, List.length_nil]; omega
   case measure => simp [intOf]
end Go.Proofs.Rdr

namespace Go.Am
open Go.RowKit Go.MapKept Go.Proofs Go.Proofs.Rdr
noncomputable def bebK (n : Nat) (j : Nat) : (List UInt8 → Bool) → Bool :=
 Nat.rec (motive := fun _ => (List UInt8 → Bool) → Bool) (fun k => k []) (fun i ih k => forceN (Nat.mod (Nat.div n (Nat.pow 256 i)) 256) fun x => ih fun t => k (UInt8.ofNat x :: t)) j
noncomputable def ovPut (args : List Value) (σ : St) (K : VK) : Bool :=
 match args with
 | [.string ⟨⟨l⟩⟩, .int .u64 (.ofNat n), .int .i64 (.ofNat k)] => match Nat.blt n 18446744073709551616, Nat.ble k 8 with
  | true, true => lenK l fun m => match Nat.ble m 35184372088832 with
   | true => bebK n k fun t => appK l t fun bs => K (.string ⟨⟨bs⟩⟩) σ
   | false => false
  | _, _ => false
 | _ => false
theorem bebK_eq (n : Nat) : ∀ (j : Nat) (k : List UInt8 → Bool), bebK n j k = k (beb j n) := by
 intro j
 induction j with
 | zero => intro k; rfl
 | succ j ih =>
  intro k
  show forceN (Nat.mod (Nat.div n (Nat.pow 256 j)) 256) (fun x => bebK n j fun t => k (UInt8.ofNat x :: t)) = _
  rw [forceN_eq, ih]
  show k (UInt8.ofNat (n / 256 ^ j % 256) :: beb j n) = k (UInt8.ofNat (n / 256 ^ j) :: beb j n)
  congr 2
  apply UInt8.toNat_inj.1
  simp
section
variable {w0 : World} {ρ : Rn} {σ : St} {w : World}
theorem ovPut_ok : CallOk Tryz.prog w0 (fun f' args σ K => match Nat.beq f' 137 with | true => ovPut args σ K | false => false) := by
 intro f' args σ K ρ w args' hk h ha
 dsimp only at hk
 split at hk
 · rename_i hf'
   obtain rfl : f' = 137 := by simpa using hf'
   refine ⟨enters_of Tryz.func137 (by kernel_rfl) rfl ⟨args'⟩, ?_⟩
   unfold ovPut at hk
   split at hk
   · rename_i l n k
     obtain ⟨a', t, rfl, h1, h2⟩ := ha.inv_cons
     obtain ⟨b', t, rfl, h3, h4⟩ := h2.inv_cons
     obtain ⟨c', rfl, h5⟩ := one_arg h4
     cases h1.of_flat rfl
     cases h3.of_flat rfl
     cases h5.of_flat rfl
     split at hk
     · rename_i hn hk8
       have hn := Nat.le_of_ble_eq_true hn
       have hk8 := Nat.le_of_ble_eq_true hk8
       rw [lenK_eq] at hk
       split at hk
       · rename_i hm
         have hm := Nat.le_of_ble_eq_true hm
         rw [bebK_eq, appK_eq] at hk
         have C := put_ok ⟨⟨l⟩⟩ n k w hn hk8 hm
         refine callsIn_wide.2 (C.mono ?_)
         rintro e w' ⟨rfl, hb⟩
         obtain ⟨g1, g2⟩ := h.below hb
         exact ⟨_, rfl, ρ, _, σ, hk, .flat rfl, g1, g2⟩
       · cases hk
     · cases hk
   · cases hk
 · cases hk
end
end Go.Am

namespace Go.Proofs.Rdr
open Go Go.RowKit Go.Proofs
end Go.Proofs.Rdr

namespace Go.Proofs.Rdr
open Go Go.RowKit Go.Proofs
end Go.Proofs.Rdr

namespace Go.Am
open Go.RowKit Go.MapKept Go.Proofs Go.Proofs.Rdr
end Go.Am

namespace Go.Am
open Go.RowKit Go.MapKept Go.Proofs Go.Proofs.Rdr
noncomputable def ovList (args : List Value) (σ : St) (K : VK) : Bool :=
 match args with
 | [p, .func (.func g) ⟨[]⟩ ⟨[]⟩] => match Nat.beq g 163 with
  | true => rdLK σ p K
  | false => false
 | _ => false
theorem ovList_ok {w0 : World} : CallOk Tryz.prog w0 (fun f' args σ K => match Nat.beq f' 162 with | true => ovList args σ K | false => false) := by
 intro f' args σ K ρ w args' hk hr ha
 dsimp only at hk
 split at hk
 · rename_i hf'
   obtain rfl : f' = 162 := by simpa using hf'
   refine ⟨enters_of Tryz.func162 (by kernel_rfl) rfl ⟨args'⟩, ?_⟩
   unfold ovList at hk
   split at hk
   · rename_i p g
     obtain ⟨p', fv, rfl, hv, hf⟩ := two_args ha
     cases hf.func0
     split at hk
     · rename_i hg
       have hg := Nat.eq_of_beq_eq_true hg
       subst hg
       exact callsIn_wide.2 (rdL_sound hr (enters_of Tryz.func163 (by kernel_rfl) rfl) hv hk)
     · cases hk
   · cases hk
 · cases hk
noncomputable def ovX (ov : FuncId → Option (List Value → St → VK → Bool)) : FuncId → Option (List Value → St → VK → Bool) :=
 ovWith 136 ovCC <|
 ovWith 30 ovStr <|
 ovWith 137 ovPut <|
 ovWith 162 ovList <|
 ovWith 160 (ovRd 161 (.int .u64 (.ofNat 0)) numP) <|
 ovWith 158 (ovRd 159 (.int .u8 (.ofNat 0)) byteP) <|
 ovWith 165 (ovRd 166 (.string ⟨⟨[]⟩⟩) textP) <|
 ovWith 70 (ovRd 71 (.bool false) endP) <|
 ovWith 155 ovCnt <|
 ov
theorem ovX_ok {w0 : World} {ov : FuncId → Option (List Value → St → VK → Bool)} (h : OvOk Tryz.prog w0 ov) : OvOk Tryz.prog w0 (ovX ov) :=
 ovWith_ok (f := 136) ovCC_ok <|
 ovWith_ok (f := 30) ovStr_ok <|
 ovWith_ok (f := 137) ovPut_ok <|
 ovWith_ok (f := 162) ovList_ok <|
 ovWith_ok (f := 160) (ovRd_ok (enters_of Tryz.func160 (by kernel_rfl) rfl) (rspec64 (enters_of Tryz.func161 (by kernel_rfl) rfl)) rfl fun _ => num_spec) <|
 ovWith_ok (f := 158) (ovRd_ok (enters_of Tryz.func158 (by kernel_rfl) rfl) (rspec8 (enters_of Tryz.func159 (by kernel_rfl) rfl)) rfl fun _ => byte_spec) <|
 ovWith_ok (f := 165) (ovRd_ok (enters_of Tryz.func165 (by kernel_rfl) rfl) (rspecS (enters_of Tryz.func166 (by kernel_rfl) rfl)) rfl fun _ => text_spec) <|
 ovWith_ok (f := 70) (ovRd_ok (enters_of Tryz.func70 (by kernel_rfl) rfl) (rspecB (enters_of Tryz.func71 (by kernel_rfl) rfl)) rfl fun _ => end_spec) <|
 ovWith_ok (f := 155) ovCnt_ok <|
 h
end Go.Am

namespace Go.Am
open Go.Proofs Go.RowKit
theorem mixedS : Tryz.prog.follows .mixedOrders = true := by kernel_rfl
theorem namelessS : Tryz.prog.funcs.toList.all (fun f => f.name != "runtime.NumGoroutine") = true := by kernel_rfl
theorem namesS : ∀ (f : FuncId) (fn : Func), Tryz.prog.funcs[f]? = some fn → fn.name ≠ "runtime.NumGoroutine" := by
 intro f fn h
 have hm : fn ∈ Tryz.prog.funcs.toList := List.mem_of_getElem? (i := f) (by rw [Array.getElem?_toList]; exact h)
 have := List.all_eq_true.1 namelessS fn hm
 simpa using this
theorem gsz : Tryz.prog.globals.size = 0 := by kernel_rfl
theorem gs_none : GOk Tryz.prog [] := ⟨by decide, fun x hx => by cases hx⟩
noncomputable def ovS0 : FuncId → Option (List Value → St → VK → Bool) := ovX fun _ => none
theorem ovS0_ok {w : World} : OvOk Tryz.prog w ovS0 := ovX_ok fun f g hg => by cases hg
end Go.Am

namespace Go.Am
open Go.Proofs Go.RowKit
set_option maxRecDepth 1000000 in
theorem run_awake : MemoRow Tryz.prog ovS0 1000 60 7 [] ([], .bool true) := ⟨by simp, rfl, by kernel_rfl⟩
noncomputable def ovS1 : FuncId → Option (List Value → St → VK → Bool) := ovWith 7 (memoK [([], .bool true)]) ovS0
theorem ovS1_ok {w : World} (hsz : Tryz.prog.globals.size ≤ w.heap.size) (hl : Laid [] w) : OvOk Tryz.prog w ovS1 := by
 refine ovWith_ok (memo_ok (most := 1000) (n := 60) gs_none hsz hl (fun w hz hw => ovS0_ok) namesS mixedS (enters_of Tryz.func7 (by kernel_rfl) rfl) fun x hx => ?_) ovS0_ok
 rcases List.mem_cons.1 hx with rfl | hx
 · exact run_awake
 · cases hx
end Go.Am

namespace Go.Am
open Go.RowKit Go.MapKept Go.Proofs Go.Proofs.Rdr
variable {most : Nat}
theorem ex_X (most : Nat) : ∃ X : Nat → EV, ∀ n, X n = xAt PP tbS ovS1 most n := ⟨fun n => xAt PP tbS ovS1 most n, fun _ => rfl⟩
noncomputable def X (most : Nat) : Nat → EV := Classical.choose (ex_X most)
theorem X_eq (most n : Nat) : X most n = xAt PP tbS ovS1 most n := Classical.choose_spec (ex_X most) n
theorem X_most (most n : Nat) : (X most n).most = most := by rw [X_eq]; rfl
theorem X_call {n : Nat} {f : FuncId} (h : ovS1 f = none) (args : List Value) (σ : St) (K : VK) : (X most (n + 1)).C f args σ K = fnX PP tbS f ((X most n).E PP) args σ K := by
 rw [X_eq, X_eq]; exact xAt_call h args σ K
theorem X_ov {n : Nat} {f : FuncId} {g : List Value → St → VK → Bool} (h : ovS1 f = some g) (args : List Value) (σ : St) (K : VK) : (X most (n + 1)).C f args σ K = g args σ K := by
 rw [X_eq]; exact xAt_ov h args σ K
def BufR (σ : St) (w : Nat) (B : Nat → Prop) (bs : List UInt8) (buf : Value) : Prop :=
 (bs = [] ∧ buf = .slice none 0 0) ∨ ∃ j olds, bs ≠ [] ∧ B j ∧ j ≠ w ∧ σ.obj j = some (.cells (bytesV bs) 5 (.grown olds)) ∧ buf = .slice (some ⟨j, 0, some 0⟩) bs.length bs.length
def Lies (t : TypeId) (m : Nat) : Prop := liesAt PP PP.depth t (Nat.div m (PP.cellsOf t)) 0 94 1 = true
structure Bld (σ : St) (w : Nat) (B : Nat → Prop) (bs : List UInt8) (t : TypeId) (rest : List Value) : Prop where
 inB : B w
 lt : ∀ i, B i → i < σ.n
 obj : ∃ addr buf, σ.obj w = some (.cells (addr :: buf :: rest) t .exact) ∧ (addr = .pointer none ∨ addr = .pointer (some ⟨w, 0, none⟩)) ∧ BufR σ w B bs buf
theorem copyCheck_c {n : Nat} (args : List Value) (σ : St) (K : VK) : (X most (n + 1)).C c_strings_Builder_copyCheck args σ K = ovCC args σ K := X_ov (by rfl) args σ K
theorem ovCC_nil {σ : St} {w : Nat} {t : TypeId} {l : List Value} (h : σ.obj w = some (.cells (.pointer none :: l) t .exact)) (hl : Lies t (l.length + 1)) (K : VK) :
 ovCC [.pointer (some ⟨w, 0, none⟩)] σ K = K (.tuple ⟨[]⟩) (σ.set w (.cells (.pointer (some ⟨w, 0, none⟩) :: l) t .exact)) := by
 have hl : liesAt Tryz.prog Tryz.prog.depth t (Nat.div (l.length + 1) (Tryz.prog.cellsOf t)) 0 94 1 = true := hl
 unfold ovCC
 simp only [cellsK_h h, nthK_z, lenK_eq, List.length_cons, hl]
 unfold writeK
 simp only [cellsK_h h, spliceK_eq, setK_eq]
 rw [if_pos (by simp)]
 simp [splice]
theorem ovCC_some {σ : St} {w : Nat} {t : TypeId} {l : List Value} (h : σ.obj w = some (.cells (.pointer (some ⟨w, 0, none⟩) :: l) t .exact)) (K : VK) :
 ovCC [.pointer (some ⟨w, 0, none⟩)] σ K = K (.tuple ⟨[]⟩) σ := by
 show cellsK σ w _ = _
 rw [cellsK_h h]
 show (match Nat.beq w w, Nat.beq 0 0 with | true, true => K (.tuple ⟨[]⟩) σ | _, _ => false) = _
 rw [show Nat.beq w w = true from Nat.beq_refl w]
theorem WriteString_s {n : Nat} {σ : St} {w : Nat} {B : Nat → Prop} {bs : List UInt8} {t : TypeId} {rest : List Value} (h : Bld σ w B bs t rest) (hl : Lies t (rest.length + 2)) (l : List UInt8) (hb : bs.length + l.length ≤ 274877906944) {K : VK}
 (hK : ∀ v σ' B', Bld σ' w B' (bs ++ l) t rest → Fr' B σ σ' B' → K v σ' = true) : (X most (n + 2)).C c_strings_Builder_WriteString [.pointer (some ⟨w, 0, none⟩), .string ⟨⟨l⟩⟩] σ K = true := by
 rw [X_call (by rfl), f_strings_Builder_WriteString]
 unfold r_strings_Builder_WriteString
 rw [copyCheck_c]
 obtain ⟨addr, buf, h1, h2, h3⟩ := h.obj
 have key : ∀ σ1 : St, σ1.n = σ.n → σ1.obj w = some (.cells (.pointer (some ⟨w, 0, none⟩) :: buf :: rest) t .exact) → (∀ i, i ≠ w → σ1.obj i = σ.obj i) →
  (rNil PP (.pointer (some ⟨w, 0, none⟩)) fun v1 =>
   rFld 1 v1 fun v2 => rLd v2 σ1 fun v3 σ => rApp PP 5 1 1 v3 (.string ⟨⟨l⟩⟩) σ fun v4 σ => rNil PP (.pointer (some ⟨w, 0, none⟩)) fun v5 => rFld 1 v5 fun v6 => rSt 1 v6 v4 σ fun σ =>
    rLenT (.string ⟨⟨l⟩⟩) fun v7 => K (.tuple ⟨[v7, .nilIface]⟩) σ) = true := by
  intro σ1 hn hw ho
  rw [rNil_p, rFld_p, Nat.zero_add, rLd_h hw (v := buf) rfl]
  have hwn : w < σ.n := h.lt w h.inB
  have fin : ∀ (v4 : Value) (σ2 : St) (B' : Nat → Prop), oneCell v4 = true → σ2.obj w = some (.cells (.pointer (some ⟨w, 0, none⟩) :: buf :: rest) t .exact) → B' w → (∀ i, B' i → i < σ2.n) → BufR σ2 w B' (bs ++ l) v4 →
   σ.n ≤ σ2.n → (∀ i, i < σ.n → ¬ B i → σ2.obj i = σ.obj i) → (∀ i, B' i → B i ∨ σ.n ≤ i) →
   (rNil PP (.pointer (some ⟨w, 0, none⟩)) fun v5 => rFld 1 v5 fun v6 => rSt 1 v6 v4 σ2 fun σ => rLenT (.string ⟨⟨l⟩⟩) fun v7 => K (.tuple ⟨[v7, .nilIface]⟩) σ) = true := by
   intro v4 σ2 B' hv hw2 hB' hlt hbuf hn2 hsame hsub
   rw [rNil_p, rFld_p, Nat.zero_add, rSt_exact hw2 (by simp) hv, rLenT_s]
   refine hK _ _ B' ⟨hB', hlt, _, v4, by rw [obj_set_same]; rfl, .inr rfl, ?_⟩ ⟨hn2, fun i hi hb => ?_, hsub⟩
   · rcases hbuf with hbuf | ⟨j, olds, g1, g2, g3, g4, g5⟩
     · exact .inl hbuf
     · exact .inr ⟨j, olds, g1, g2, g3, by rw [obj_set_other g3]; exact g4, g5⟩
   · rw [obj_set_other (show i ≠ w from fun e => hb (e ▸ h.inB))]
     exact hsame i hi hb
  rcases Nat.eq_zero_or_pos l.length with hz | hz
  · have hl0 : l = [] := List.eq_nil_of_length_eq_zero hz
    subst hl0
    have hx : Src σ1 1 zS 0 (bytesV []) := Src.text σ1 []
    have hbuf : ∃ b m, buf = .slice b m m := by
     rcases h3 with ⟨_, e⟩ | ⟨_, _, _, _, _, _, e⟩
     · exact ⟨_, _, e⟩
     · exact ⟨_, _, e⟩
    obtain ⟨b, m, rfl⟩ := hbuf
    rw [rApp_zero hx]
    refine fin _ _ B rfl hw h.inB (fun i hi => by rw [hn]; exact h.lt i hi) ?_ (by omega) (fun i hi hb => ho i fun e => hb (e ▸ h.inB)) (fun i hi => .inl hi)
    rw [List.append_nil]
    rcases h3 with h3 | ⟨j, olds, g1, g2, g3, g4, g5⟩
    · exact .inl h3
    · exact .inr ⟨j, olds, g1, g2, g3, by rw [ho j g3]; exact g4, g5⟩
  · have hx := Src.text σ1 l
    rcases h3 with ⟨e1, e2⟩ | ⟨j, olds, g1, g2, g3, g4, g5⟩
    · subst e1 e2
      rw [rApp_nil hx (by omega) (by omega)]
      refine fin _ _ (fun i => B i ∨ i = σ.n) rfl (by rw [obj_new_old (by omega)]; exact hw) (.inl h.inB) (fun i hi => ?_) (.inr ⟨σ1.n, [], ?_, .inr (by omega), by omega, ?_, ?_⟩) (by rw [new_n]; omega) (fun i hi hb => ?_) (fun i hi => ?_)
      · rw [new_n]
        rcases hi with hi | hi
        · have := h.lt i hi; omega
        · omega
      · intro e; simp at e; subst e; simp at hz
      · rw [obj_new_same]; rfl
      · simp
      · rw [obj_new_old (by omega)]; exact ho i fun e => hb (e ▸ h.inB)
      · rcases hi with hi | hi
        · exact .inl hi
        · exact .inr (by omega)
    · subst g5
      have hj1 : σ1.obj j = some (.cells (bytesV bs) 5 (.grown olds)) := by rw [ho j g3]; exact g4
      have hjn : j < σ.n := h.lt j g2
      rw [rApp_row hx (by omega) (by omega) hj1 (by simp [bytesV]) (by kernel_rfl)]
      refine fin _ _ (fun i => B i ∨ i = σ.n) rfl (by rw [obj_new_old (by rw [set_n]; omega), obj_set_other (Ne.symm g3)]; exact hw) (.inl h.inB) (fun i hi => ?_) (.inr ⟨σ1.n, j :: olds, ?_, .inr (by omega), by omega, ?_, ?_⟩) (by rw [new_n, set_n]; omega) (fun i hi hb => ?_) (fun i hi => ?_)
      · rw [new_n, set_n]
        rcases hi with hi | hi
        · have := h.lt i hi; omega
        · omega
      · intro e; exact g1 (List.append_eq_nil_iff.1 e).1
      · have : σ1.n = (σ1.set j (.cells (bytesV bs) 5 .stale)).n := rfl
        rw [this, obj_new_same]; simp [bytesV]
      · simp
      · rw [obj_new_old (by rw [set_n]; omega), obj_set_other (show i ≠ j from fun e => hb (e ▸ g2))]; exact ho i fun e => hb (e ▸ h.inB)
      · rcases hi with hi | hi
        · exact .inl hi
        · exact .inr (by omega)
 rcases h2 with e | e
 · subst e
   rw [ovCC_nil h1 (by simpa using hl)]
   exact key _ rfl obj_set_same fun i hi => obj_set_other hi
 · subst e
   rw [ovCC_some h1]
   exact key _ rfl h1 fun i _ => rfl
end Go.Am



namespace Go.Am
open Go.RowKit Go.MapKept Go.Proofs Go.Proofs.Rdr
variable {most : Nat}
theorem put_c {n : Nat} (l : List UInt8) (z k : Nat) (hz : z < 18446744073709551616) (hk : k ≤ 8) (hl : l.length ≤ 35184372088832) (σ : St) (K : VK) :
 (X most (n + 1)).C c_wire_put [.string ⟨⟨l⟩⟩, .int .u64 (.ofNat z), .int .i64 (.ofNat k)] σ K = K (.string ⟨⟨l ++ beb k z⟩⟩) σ := by
 rw [X_ov (g := ovPut) (by rfl)]
 show (match Nat.blt z 18446744073709551616, Nat.ble k 8 with
  | true, true => lenK l fun m => match Nat.ble m 35184372088832 with
   | true => bebK z k fun t => appK l t fun bs => K (.string ⟨⟨bs⟩⟩) σ
   | false => false
  | _, _ => false) = _
 rw [show Nat.blt z 18446744073709551616 = true from Nat.ble_eq_true_of_le hz, show Nat.ble k 8 = true from Nat.ble_eq_true_of_le hk]
 simp only [lenK_eq, show Nat.ble l.length 35184372088832 = true from Nat.ble_eq_true_of_le hl, bebK_eq, appK_eq]
theorem beb_length (k z : Nat) : (beb k z).length = k := by
 induction k with
 | zero => rfl
 | succ k ih => simp [beb, ih]
theorem Num_c {n : Nat} (l : List UInt8) (z : Nat) (hz : z < 18446744073709551616) (hl : l.length ≤ 35184372088832) (σ : St) (K : VK) :
 (X most (n + 2)).C c_wire_Num [.string ⟨⟨l⟩⟩, .int .u64 (.ofNat z)] σ K = K (.string ⟨⟨l ++ beb 8 z⟩⟩) σ := by
 rw [X_call (by rfl), f_wire_Num]
 unfold r_wire_Num
 rw [put_c l z 8 hz (by omega) hl]
theorem wrap_u8_u64 {z : Nat} (h : z < 256) : wrapI .u64 (.ofNat z) = .ofNat z := by
 show (match Nat.blt z 18446744073709551616 with | true => _ | false => _) = _
 rw [show Nat.blt z 18446744073709551616 = true from Nat.ble_eq_true_of_le (by omega)]
theorem wrap_u64 {z : Nat} (h : z < 18446744073709551616) : wrapI .u64 (.ofNat z) = .ofNat z := by
 show (match Nat.blt z 18446744073709551616 with | true => _ | false => _) = _
 rw [show Nat.blt z 18446744073709551616 = true from Nat.ble_eq_true_of_le h]
theorem Byte_c {n : Nat} (l : List UInt8) (z : Nat) (hz : z < 256) (hl : l.length ≤ 35184372088832) (σ : St) (K : VK) :
 (X most (n + 2)).C c_wire_Byte [.string ⟨⟨l⟩⟩, .int .u8 (.ofNat z)] σ K = K (.string ⟨⟨l ++ beb 1 z⟩⟩) σ := by
 rw [X_call (by rfl), f_wire_Byte]
 unfold r_wire_Byte
 rw [rInt_i, wrap_u8_u64 hz, put_c l z 1 (by omega) (by omega) hl]
theorem rBin_cat (t : TypeId) (a b : List UInt8) (K : Value → Bool) (h : a.length + b.length < 9223372036854775808) : rBin PP .add t (.string ⟨⟨a⟩⟩) (.string ⟨⟨b⟩⟩) K = K (.string ⟨⟨a ++ b⟩⟩) := by
 rw [rBin_eq]
 show (lenK a fun n => lenK b fun m => match Nat.blt (n + m) 9223372036854775808 with
  | true => appK a b fun l => K (.string ⟨⟨l⟩⟩)
  | false => false) = _
 rw [lenK_eq, lenK_eq, show Nat.blt (a.length + b.length) 9223372036854775808 = true from Nat.ble_eq_true_of_le h]
 simp only [appK_eq]
def encText (t : List UInt8) : List UInt8 × Nat := if 2048 < t.length then ([], 40) else (beb 2 t.length ++ t, 0)
theorem Text_c {n : Nat} (t : List UInt8) (ht : t.length ≤ 140737488355328) (σ : St) (K : VK) :
 (X most (n + 2)).C c_wire_Text [.string ⟨⟨[]⟩⟩, .string ⟨⟨t⟩⟩] σ K = K (.tuple ⟨[.string ⟨⟨(encText t).1⟩⟩, .int .i64 (.ofNat (encText t).2)]⟩) σ := by
 rw [X_call (by rfl), f_wire_Text]
 unfold r_wire_Text
 rw [rLenT_s, rBin_gtrN, rIf_b]
 unfold encText
 by_cases h : 2048 < t.length
 · rw [if_pos h, if_pos (by simpa using h)]
 · rw [if_neg h, if_neg (by simpa using h)]
   rw [rLenT_s, rInt_i, wrap_u64 (by omega), put_c [] t.length 2 (by omega) (by omega) (by simp)]
   rw [List.nil_append, rBin_cat _ _ _ _ (by rw [beb_length]; omega)]
def encNums (l : List Nat) : List UInt8 × Nat := if 1024 < l.length then ([], 40) else (beb 2 l.length ++ l.flatMap (beb 8), 0)
theorem bytes8K_V (l : List UInt8) (k : List UInt8 → Bool) : bytes8K (bytesV l) k = k l := by
 induction l generalizing k with
 | nil => rfl
 | cons b l ih =>
  show (match Nat.blt b.toNat 256 with | true => bytes8K (bytesV l) (fun t => k (UInt8.ofNat b.toNat :: t)) | false => false) = _
  rw [show Nat.blt b.toNat 256 = true from Nat.ble_eq_true_of_le b.toNat_lt, ih]
  simp
theorem String_s {n : Nat} {σ : St} {w : Nat} {B : Nat → Prop} {bs : List UInt8} {t : TypeId} {rest : List Value} (h : Bld σ w B bs t rest) (hb : bs.length ≤ 274877906944) {K : VK}
 (hK : ∀ σ', Fr' B σ σ' B → K (.string ⟨⟨bs⟩⟩) σ' = true) : (X most (n + 1)).C c_strings_Builder_String [.pointer (some ⟨w, 0, none⟩)] σ K = true := by
 rw [X_ov (g := ovStr) (by rfl)]
 obtain ⟨a, b, h1, h2, h3⟩ := h.obj
 unfold ovStr
 simp only [cellsK_h h1, nthK_s, nthK_z]
 rcases h3 with ⟨e1, e2⟩ | ⟨j, olds, g1, g2, g3, g4, g5⟩
 · subst e1 e2
   exact hK σ (.refl B σ)
 · subst g5
   obtain ⟨m, hm⟩ := Nat.exists_eq_succ_of_ne_zero (show bs.length ≠ 0 from fun e => g1 (List.eq_nil_of_length_eq_zero e))
   rw [hm]
   show getK σ.h j _ = true
   rw [getK_eq]
   have g4' : σ.h.get j = some (.cells (bytesV bs) 5 (.grown olds)) := g4
   rw [g4']
   simp only
   rw [show Nat.ble (m + 1) 9223372036854775807 = true from Nat.ble_eq_true_of_le (by omega)]
   show dropK 0 (bytesV bs) _ = true
   rw [dropK_eq, if_pos (by omega), takeK_eq, if_pos (by simp [bytesV]; omega)]
   have : (List.drop 0 (bytesV bs)).take (Nat.succ m) = bytesV bs := by
    rw [List.drop_zero, List.take_of_length_le (by simp [bytesV]; omega)]
   rw [this, bytes8K_V, setK_eq]
   exact hK _ ⟨Nat.le_refl _, fun i _ hi => obj_set_other (fun e => hi (e ▸ g2)), fun _ hi => .inl hi⟩
theorem lies64 : Lies 94 2 := by unfold Lies; kernel_rfl
theorem List_loop {n : Nat} {v : Value} {ns : List Nat} (hlen : ns.length ≤ 1024) :
 ∀ (r i m : Nat) (σ : St) (w : Nat) (B : Nat → Prop) (bs : List UInt8) (K : VK), i + r = ns.length → r < m → Bld σ w B bs 94 [] → bs.length ≤ 100000 - 8 * r → Rd σ B (.list [.num]) v (.l (ns.map fun z : Nat => [.n (z : Int)])) →
  (∀ σ' B', Fr' B σ σ' B' → K (.tuple ⟨[.string ⟨⟨bs ++ (ns.drop i).flatMap (beb 8)⟩⟩, .int .i64 (.ofNat 0)]⟩) σ' = true) →
  l_wire_List_rrrrlrd (X most (n + 2)) m (.pointer (some ⟨w, 0, none⟩)) v (.int .i64 (.ofNat ns.length)) (.int .i64 (.ofNat i)) σ K = true := by
 intro r
 induction r with
 | zero =>
  intro i m σ w B bs K hi hm hB hbs hv hK
  obtain ⟨m, rfl⟩ := Nat.exists_eq_succ_of_ne_zero (show m ≠ 0 by omega)
  rw [l_wire_List_rrrrlrdE]
  unfold l_wire_List_rrrrlrdB
  rw [rBin_lssN, rIf_b, if_neg (by simp; omega)]
  refine String_s (n := n + 1) hB (by omega) fun σ' f => ?_
  have := hK σ' B f
  rwa [List.drop_of_length_le (by omega), List.flatMap_nil, List.append_nil] at this
 | succ r ih =>
  intro i m σ w B bs K hi hm hB hbs hv hK
  obtain ⟨m, rfl⟩ := Nat.exists_eq_succ_of_ne_zero (show m ≠ 0 by omega)
  rw [l_wire_List_rrrrlrdE]
  unfold l_wire_List_rrrrlrdB
  rw [rBin_lssN, rIf_b, if_pos (by simp; omega)]
  have hlt : i < ns.length := by omega
  have hz : ns[i]? = some ns[i] := List.getElem?_eq_getElem hlt
  obtain ⟨b, o, sp, c, rfl, hsp, hst⟩ := hv.elem (k := i) (ds := [.n ns[i]]) (by simp [hz])
  obtain ⟨d, hd, hc⟩ := hst.cell 0 (it := .num) rfl
  simp at hd
  subst hd
  obtain ⟨vs, e, ck, u, g1, g2, g3, g4⟩ := hc.row
  rw [rIdx_sp 1 b o i _ c sp hsp (by simpa using hlt), rLd_h g1 (by simpa using g3)]
  obtain ⟨z, rfl, ez, hz64⟩ := g4.num_inv
  have ez : ns[i] = z := by injection ez with ez; exact Int.ofNat.inj ez
  rw [put_c [] z 8 hz64 (by omega) (by simp), List.nil_append]
  refine WriteString_s (n := n) hB (by exact lies64) (beb 8 z) (by rw [beb_length]; omega) fun v' σ' B' hB' f => ?_
  rw [rBin_add _ _ _ _ (by omega)]
  have hv' := hv.fr f
  refine ih (i + 1) m σ' w B' (bs ++ beb 8 z) K (by omega) (by omega) hB' (by rw [List.length_append, beb_length]; omega) hv' fun σ2 B2 f2 => ?_
  have := hK σ2 B2 (f.trans f2)
  have e1 : ns.drop i = z :: ns.drop (i + 1) := by
   rw [List.drop_eq_getElem_cons hlt, ez]
  rw [e1, List.flatMap_cons, ← List.append_assoc] at this
  exact this
theorem nums_data {σ : St} {C : Nat → Prop} {v : Value} {es : List (List D)} (h : Rd σ C (.list [.num]) v (.l es)) : ∃ ns : List Nat, es = ns.map fun z : Nat => [D.n (z : Int)] := by
 have : ∀ (k : Nat) (ds : List D), es[k]? = some ds → ∃ z : Nat, ds = [D.n (z : Int)] := by
  intro k ds hk
  obtain ⟨b, o, sp, c, rfl, hsp, hst⟩ := h.elem hk
  obtain ⟨d, hd, hc⟩ := hst.cell 0 (it := .num) rfl
  obtain ⟨vs, e, ck, u, g1, g2, g3, g4⟩ := hc.row
  obtain ⟨z, rfl, rfl, _⟩ := g4.num_inv
  have hl := hst.len
  match ds, hl, hd with
  | [d], _, hd => simp at hd; exact ⟨z, by rw [hd]⟩
 clear h
 induction es with
 | nil => exact ⟨[], rfl⟩
 | cons ds es ih =>
  obtain ⟨z, rfl⟩ := this 0 ds rfl
  obtain ⟨ns, rfl⟩ := ih fun k ds hk => this (k + 1) ds (by simpa using hk)
  exact ⟨z :: ns, rfl⟩
theorem List_s {n : Nat} {v : Value} {ns : List Nat} {σ : St} {C : Nat → Prop} (hv : Rd σ C (.list [.num]) v (.l (ns.map fun z : Nat => [.n (z : Int)]))) (hm : 1024 < most) {K : VK}
 (hK : ∀ σ', Ext' σ σ' → K (.tuple ⟨[.string ⟨⟨(encNums ns).1⟩⟩, .int .i64 (.ofNat (encNums ns).2)]⟩) σ' = true) : (X most (n + 3)).C c_wire_List [.string ⟨⟨[]⟩⟩, v] σ K = true := by
 rw [X_call (by rfl), f_wire_List]
 unfold r_wire_List
 obtain ⟨⟨b, c, e⟩, hN⟩ := hv.len
 rw [List.length_map] at e hN
 have hv0 := hv
 subst e
 rw [rLenS_s, rBin_gtrN, rIf_b]
 unfold encNums at hK
 by_cases h : 1024 < ns.length
 · rw [if_pos (by simpa using h)]
   rw [if_pos h] at hK
   exact hK σ (.refl σ)
 · rw [if_neg (by simpa using h)]
   rw [if_neg h] at hK
   rw [rAlloc_h, rLenS_s, rInt_i, wrap_u64 (by omega), put_c [] ns.length 2 (by omega) (by omega) (by simp), List.nil_append]
   have hB : Bld (σ.new (.cells [.pointer none, .slice none 0 0] 94 .exact)) σ.n (fun i => i = σ.n) [] 94 [] := ⟨rfl, fun i hi => by subst hi; exact Nat.lt_succ_self _, _, _, obj_new_same, .inl rfl, .inl ⟨rfl, rfl⟩⟩
   have hx : Ext' σ (σ.new (.cells [.pointer none, .slice none 0 0] 94 .exact)) := ⟨Nat.le_succ _, fun i hi => obj_new_old (Nat.ne_of_lt hi)⟩
   refine WriteString_s (n := n) hB (by exact lies64) (beb 2 ns.length) (by rw [beb_length]; simp) fun v' σ' B' hB' f => ?_
   rw [rLenS_s]
   have hx' : Ext' σ σ' := f.ext hx fun i hi => by omega
   have hB'n : ∀ i, B' i → σ.n ≤ i := fun i hi => by
    rcases f.sub i hi with h | h
    · omega
    · rw [new_n] at h; omega
   have hv' : Rd σ' B' (.list [.num]) (.slice b ns.length c) (.l (ns.map fun z : Nat => [.n (z : Int)])) := by
    have : Fr' C σ σ' B' := ⟨hx'.n, fun i hi _ => hx'.same i hi, fun i hi => .inr (hB'n i hi)⟩
    exact hv.fr this
   rw [X_most]
   refine List_loop (n := n) (by omega) ns.length 0 most σ' σ.n B' (beb 2 ns.length) K (by omega) (show ns.length < most by omega) (by simpa using hB') (by rw [beb_length]; omega) hv' fun σ2 B2 f2 => ?_
   rw [List.drop_zero]
   exact hK σ2 (f2.ext hx' hB'n)
end Go.Am

namespace Go.Am
open Go.RowKit Go.MapKept Go.Proofs Go.Proofs.Rdr
variable {most : Nat}
abbrev PenS := List UInt8 × Nat
abbrev Pen (σ : St) (w : Nat) (B : Nat → Prop) (st : PenS) : Prop := Bld σ w B st.1 96 [.int .i64 (.ofNat st.2)]
def LIM : Nat := 274877906944
def wrN (l : List UInt8) (st : PenS) : PenS := (st.1 ++ l, st.2)
def wr (x : List UInt8 × Nat) (st : PenS) : PenS := (st.1 ++ x.1, if st.2 = 0 then x.2 else st.2)
theorem lies66 : Lies 96 3 := by unfold Lies; kernel_rfl
abbrev pt (b o : Nat) : Value := .pointer (some ⟨b, o, none⟩)
abbrev hand (w : Nat) : Value := .iface 90 (pt w 0)
theorem pen_write {n : Nat} {σ : St} {w : Nat} {B : Nat → Prop} {st : PenS} (h : Pen σ w B st) (l : List UInt8) (hl : st.1.length + l.length ≤ LIM) {K : VK}
 (hK : ∀ v σ' B', Pen σ' w B' (wrN l st) → Fr' B σ σ' B' → K v σ' = true) : (X most (n + 2)).C c_strings_Builder_WriteString [pt w 0, .string ⟨⟨l⟩⟩] σ K = true :=
 WriteString_s (n := n) h (by exact lies66) l hl hK
theorem pen_err {σ : St} {w : Nat} {B : Nat → Prop} {st : PenS} (h : Pen σ w B st) (K : VK) : rLd (pt w 2) σ K = K (.int .i64 (.ofNat st.2)) σ := by
 obtain ⟨a, b, h1, h2, h3⟩ := h.obj
 exact rLd_h h1 rfl K
theorem pen_put {n : Nat} {σ : St} {w : Nat} {B : Nat → Prop} {st : PenS} (h : Pen σ w B st) (hm : most ≠ 0) (x : List UInt8 × Nat) (hl : st.1.length + x.1.length ≤ LIM) {K : VK}
 (hK : ∀ v σ' B', Pen σ' w B' (wr x st) → Fr' B σ σ' B' → K v σ' = true) : (X most (n + 3)).C c_save_pen_put [pt w 0, .string ⟨⟨x.1⟩⟩, .int .i64 (.ofNat x.2)] σ K = true := by
 rw [X_call (by rfl), f_save_pen_put]
 unfold r_save_pen_put
 rw [rNil_p, rFld_p, Nat.zero_add, pen_err h, rBin_eqlN, rIf_b]
 by_cases he : st.2 = 0
 · rw [if_pos (by simpa using he), rNil_p, rFld_p, Nat.zero_add]
   obtain ⟨a, b, h1, h2, h3⟩ := h.obj
   rw [rSt_exact h1 (by simp) rfl]
   have h' : Pen (σ.set w (.cells ((a :: b :: [.int .i64 (.ofNat st.2)]).set 2 (.int .i64 (.ofNat x.2))) 96 .exact)) w B (st.1, x.2) := by
    refine ⟨h.inB, h.lt, a, b, obj_set_same, h2, ?_⟩
    rcases h3 with h3 | ⟨j, olds, g1, g2, g3, g4, g5⟩
    · exact .inl h3
    · exact .inr ⟨j, olds, g1, g2, g3, by rw [obj_set_other g3]; exact g4, g5⟩
   rw [j_save_pen_put_rE _ (by rw [X_most]; exact hm)]
   unfold j_save_pen_put_rB
   rw [rNil_p, rFld_p]
   refine pen_write (n := n) h' x.1 hl fun v σ' B' hp f => ?_
   refine hK _ σ' B' ?_ ⟨f.n, fun i hi hb => ?_, f.sub⟩
   · unfold wr; rw [if_pos he]; exact hp
   · rw [f.same i hi hb, obj_set_other (show i ≠ w from fun e => hb (e ▸ h.inB))]
 · rw [if_neg (by simpa using he), j_save_pen_put_rE _ (by rw [X_most]; exact hm)]
   unfold j_save_pen_put_rB
   rw [rNil_p, rFld_p]
   refine pen_write (n := n) h x.1 hl fun v σ' B' hp f => hK _ σ' B' ?_ f
   unfold wr; rw [if_neg he]; exact hp
theorem CellAt.ld {σ : St} {C : Nat → Prop} {it : It} {b o : Nat} {d : D} (h : CellAt σ C it b o d) : ∃ v, Rd σ C it v d ∧ ∀ K, rLd (pt b o) σ K = K v σ := by
 obtain ⟨vs, e, ck, v, g1, _, g3, g4⟩ := h.row
 exact ⟨v, g4, fun K => rLd_h g1 g3 K⟩
theorem pen_number {n : Nat} {σ : St} {w : Nat} {B : Nat → Prop} {st : PenS} {b o z : Nat} (h : Pen σ w B st) (hv : ∀ K, rLd (pt b o) σ K = K (.int .u64 (.ofNat z)) σ) (hz : z < 18446744073709551616) (hl : st.1.length + 8 ≤ LIM) {K : VK}
 (hK : ∀ v σ' B', Pen σ' w B' (wrN (beb 8 z) st) → Fr' B σ σ' B' → K v σ' = true) : (X most (n + 3)).C c_save_pen_number [pt w 0, pt b o] σ K = true := by
 rw [X_call (by rfl), f_save_pen_number]
 unfold r_save_pen_number
 rw [rNil_p, rFld_p, rNil_p, hv, Num_c [] z hz (by simp), List.nil_append]
 exact pen_write (n := n) h _ (by rw [beb_length]; exact hl) fun v σ' B' hp f => hK _ σ' B' hp f
theorem pen_kind {n : Nat} {σ : St} {w : Nat} {B : Nat → Prop} {st : PenS} {b o z : Nat} (h : Pen σ w B st) (hv : ∀ K, rLd (pt b o) σ K = K (.int .u8 (.ofNat z)) σ) (hz : z < 256) (hl : st.1.length + 1 ≤ LIM) {K : VK}
 (hK : ∀ v σ' B', Pen σ' w B' (wrN (beb 1 z) st) → Fr' B σ σ' B' → K v σ' = true) : (X most (n + 3)).C c_save_pen_kind [pt w 0, pt b o] σ K = true := by
 rw [X_call (by rfl), f_save_pen_kind]
 unfold r_save_pen_kind
 rw [rNil_p, rFld_p, rNil_p, hv, Byte_c [] z hz (by simp), List.nil_append]
 exact pen_write (n := n) h _ (by rw [beb_length]; exact hl) fun v σ' B' hp f => hK _ σ' B' hp f
theorem encText_le (t : List UInt8) : (encText t).1.length ≤ 2050 := by
 unfold encText
 by_cases h : 2048 < t.length
 · rw [if_pos h]; simp
 · rw [if_neg h, List.length_append, beb_length]; omega
theorem flatMap_beb (ns : List Nat) : (ns.flatMap (beb 8)).length = 8 * ns.length := by
 induction ns with
 | nil => rfl
 | cons z ns ih => rw [List.flatMap_cons, List.length_append, beb_length, ih, List.length_cons]; omega
theorem encNums_le (ns : List Nat) : (encNums ns).1.length ≤ 8194 := by
 unfold encNums
 by_cases h : 1024 < ns.length
 · rw [if_pos h]; simp
 · rw [if_neg h, List.length_append, beb_length, flatMap_beb]; omega
theorem pen_text {n : Nat} {σ : St} {w : Nat} {B : Nat → Prop} {st : PenS} {b o : Nat} {t : List UInt8} (h : Pen σ w B st) (hm : most ≠ 0) (hc : CellAt σ B .text b o (.s t)) (hl : st.1.length + 2050 ≤ LIM) {K : VK}
 (hK : ∀ v σ' B', Pen σ' w B' (wr (encText t) st) → Fr' B σ σ' B' → K v σ' = true) : (X most (n + 4)).C c_save_pen_text [pt w 0, pt b o] σ K = true := by
 rw [X_call (by rfl), f_save_pen_text]
 unfold r_save_pen_text
 obtain ⟨v, hv, hld⟩ := hc.ld
 obtain ⟨l, rfl, e, hlen⟩ := hv.text_inv
 injection e with e; subst e
 rw [rNil_p, hld, Text_c t hlen, rExt_t, nthK_z, rExt_t, nthK_s, nthK_z]
 exact pen_put (n := n) h hm (encText t) (by have := encText_le t; omega) fun v σ' B' hp f => hK _ σ' B' hp f
theorem pen_nums {n : Nat} {σ : St} {w : Nat} {B : Nat → Prop} {st : PenS} {b o : Nat} {ns : List Nat} (h : Pen σ w B st) (hm : 1024 < most) (hc : CellAt σ B .nums b o (.l (ns.map fun z : Nat => [.n (z : Int)]))) (hl : st.1.length + 8194 ≤ LIM) {K : VK}
 (hK : ∀ v σ' B', Pen σ' w B' (wr (encNums ns) st) → Fr' B σ σ' B' → K v σ' = true) : (X most (n + 4)).C c_save_pen_nums [pt w 0, pt b o] σ K = true := by
 rw [X_call (by rfl), f_save_pen_nums]
 unfold r_save_pen_nums
 obtain ⟨v, hv, hld⟩ := hc.ld
 have hv : Rd σ B (.list [.num]) v (.l (ns.map fun z : Nat => [.n (z : Int)])) := by cases hv with | nums h => exact h
 rw [rNil_p, hld]
 refine List_s (n := n) hv hm fun σ1 hx => ?_
 rw [rExt_t, nthK_z, rExt_t, nthK_s, nthK_z]
 have f1 := hx.fr B
 have h1 : Pen σ1 w B st := by
  obtain ⟨a, bf, g1, g2, g3⟩ := h.obj
  refine ⟨h.inB, fun i hi => Nat.lt_of_lt_of_le (h.lt i hi) hx.n, a, bf, by rw [hx.same w (h.lt w h.inB)]; exact g1, g2, ?_⟩
  rcases g3 with g3 | ⟨j, olds, k1, k2, k3, k4, k5⟩
  · exact .inl g3
  · exact .inr ⟨j, olds, k1, k2, k3, by rw [hx.same j (h.lt j k2)]; exact k4, k5⟩
 exact pen_put (n := n) h1 (by omega) (encNums ns) (by have := encNums_le ns; omega) fun v σ' B' hp f => hK _ σ' B' hp (f1.trans f)
def encMany (n : Nat) : List UInt8 × Nat := if 1048576 < n then ([], 40) else (beb 8 n, 0)
def manyN (n : Nat) : Nat := if 1048576 < n then 0 else n
theorem wr_zero (l : List UInt8) (st : PenS) : wr (l, 0) st = wrN l st := by unfold wr wrN; by_cases h : st.2 = 0 <;> simp [h]
theorem pen_many {n : Nat} {σ : St} {w : Nat} {B : Nat → Prop} {st : PenS} {m : Nat} (h : Pen σ w B st) (hm : most ≠ 0) (hN : m ≤ 140737488355328) (hl : st.1.length + 8 ≤ LIM) {K : VK}
 (hK : ∀ σ' B', Pen σ' w B' (wr (encMany m) st) → Fr' B σ σ' B' → K (.int .i64 (.ofNat (manyN m))) σ' = true) : (X most (n + 4)).C c_save_pen_many [pt w 0, .int .i64 (.ofNat m)] σ K = true := by
 rw [X_call (by rfl), f_save_pen_many]
 unfold r_save_pen_many
 rw [rBin_gtrN, rIf_b]
 unfold encMany manyN at hK
 by_cases hb : 1048576 < m
 · rw [if_pos (by simpa using hb)]
   rw [if_pos hb, if_pos hb] at hK
   exact pen_put (n := n) h hm ([], 40) (by simp; omega) fun v σ' B' hp f => hK σ' B' hp f
 · rw [if_neg (by simpa using hb)]
   rw [if_neg hb, if_neg hb] at hK
   rw [rNil_p, rFld_p, rInt_i, wrap_u64 (by omega), Num_c [] m (by omega) (by simp), List.nil_append]
   exact pen_write (n := n + 1) h _ (by rw [beb_length]; exact hl) fun v σ' B' hp f => hK σ' B' (by rw [wr_zero]; exact hp) f
theorem pen_wrong {n : Nat} {σ : St} {w : Nat} {B : Nat → Prop} {st : PenS} (h : Pen σ w B st) (K : VK) : (X most (n + 1)).C c_save_pen_wrong [pt w 0] σ K = K (.int .i64 (.ofNat st.2)) σ := by
 rw [X_call (by rfl), f_save_pen_wrong]
 unfold r_save_pen_wrong
 rw [rNil_p, rFld_p, Nat.zero_add, pen_err h]
theorem Bld.new {σ : St} {w : Nat} {B : Nat → Prop} {bs : List UInt8} {t : TypeId} {rest : List Value} (h : Bld σ w B bs t rest) (o : AObj) : Bld (σ.new o) w B bs t rest := by
 obtain ⟨a, bf, g1, g2, g3⟩ := h.obj
 refine ⟨h.inB, fun i hi => Nat.lt_succ_of_lt (h.lt i hi), a, bf, by rw [obj_new_old (Nat.ne_of_lt (h.lt w h.inB))]; exact g1, g2, ?_⟩
 rcases g3 with g3 | ⟨j, olds, k1, k2, k3, k4, k5⟩
 · exact .inl g3
 · exact .inr ⟨j, olds, k1, k2, k3, by rw [obj_new_old (Nat.ne_of_lt (h.lt j k2))]; exact k4, k5⟩
theorem Bld.set {σ : St} {w : Nat} {B : Nat → Prop} {bs : List UInt8} {t : TypeId} {rest : List Value} (h : Bld σ w B bs t rest) (i : Nat) (hi : ¬ B i) (o : AObj) : Bld (σ.set i o) w B bs t rest := by
 obtain ⟨a, bf, g1, g2, g3⟩ := h.obj
 have hne : ∀ j, B j → j ≠ i := fun j hj e => hi (e ▸ hj)
 refine ⟨h.inB, h.lt, a, bf, by rw [obj_set_other (hne w h.inB)]; exact g1, g2, ?_⟩
 rcases g3 with g3 | ⟨j, olds, k1, k2, k3, k4, k5⟩
 · exact .inl g3
 · exact .inr ⟨j, olds, k1, k2, k3, by rw [obj_set_other (hne j k2)]; exact k4, k5⟩
theorem Fr'.set_new {B : Nat → Prop} {σ σ' : St} (f : Fr' B σ σ' B) {i : Nat} (hi : σ.n ≤ i) (o : AObj) : Fr' B σ (σ'.set i o) B :=
 ⟨f.n, fun j hj hb => by rw [obj_set_other (show j ≠ i by omega)]; exact f.same j hj hb, f.sub⟩
theorem pen_is {n : Nat} {σ : St} {w : Nat} {B : Nat → Prop} {st : PenS} {b o : Nat} {t : Bool} (h : Pen σ w B st) (hc : CellAt σ B .is b o (.b t)) (hl : st.1.length + 8 ≤ LIM) {K : VK}
 (hK : ∀ v σ' B', Pen σ' w B' (wrN (beb 8 (if t then 1 else 0)) st) → Fr' B σ σ' B' → K v σ' = true) : (X most (n + 4)).C c_save_pen_is [pt w 0, pt b o] σ K = true := by
 rw [X_call (by rfl), f_save_pen_is]
 unfold r_save_pen_is
 rw [rAlloc_h, rSt_exact obj_new_same (by simp) rfl, rNil_p]
 have hnB : ¬ B σ.n := fun hb => Nat.lt_irrefl _ (h.lt _ hb)
 have f1 : Fr' B σ ((σ.new (.cells [.int .u64 (.ofNat 0)] 57 .exact)).set σ.n (.cells [.int .u64 (.ofNat 0)] 57 .exact)) B := (Fr'.new B σ _).set_new (Nat.le_refl _) _
 have h1 : Pen ((σ.new (.cells [.int .u64 (.ofNat 0)] 57 .exact)).set σ.n (.cells [.int .u64 (.ofNat 0)] 57 .exact)) w B st := (h.new _).set _ hnB _
 obtain ⟨v, hv, hld⟩ := (hc.fr f1).ld
 obtain ⟨t', rfl, e⟩ := hv.is_inv
 injection e with e; subst e
 have hld' := hld
 rw [show ([Value.int .u64 (.ofNat 0)].set 0 (.int .u64 (.ofNat 0))) = [.int .u64 (.ofNat 0)] from rfl]
 rw [hld']
 cases t with
 | true =>
  rw [rIf_t, rSt_exact obj_set_same (by simp) rfl]
  refine pen_number (n := n) (z := 1) (h1.set _ hnB _) (fun K => rLd_h obj_set_same rfl K) (by omega) hl fun v σ' B' hp f => hK _ σ' B' hp ?_
  exact (f1.set_new (Nat.le_refl _) _).trans f
 | false =>
  rw [rIf_f]
  refine pen_number (n := n) (z := 0) h1 (fun K => rLd_h obj_set_same rfl K) (by omega) hl fun v σ' B' hp f => hK _ σ' B' hp (f1.trans f)
end Go.Am

namespace Go.Am
open Go.RowKit Go.MapKept Go.Proofs Go.Proofs.Rdr
variable {most : Nat}
def u64 (z : Int) : Nat := (z % 18446744073709551616).toNat
def numOf : List D → Nat
 | [.n z] => z.toNat
 | _ => 0
mutual
def enc : It → D → PenS → PenS
 | .num, .n z, st => wrN (beb 8 z.toNat) st
 | .kind, .n z, st => wrN (beb 1 z.toNat) st
 | .int, .n z, st => wrN (beb 8 (u64 z)) st
 | .is, .b t, st => wrN (beb 8 (if t then 1 else 0)) st
 | .text, .s t, st => wr (encText t) st
 | .nums, .l es, st => wr (encNums (es.map numOf)) st
 | .list its, .l es, st => if 1048576 < es.length then wr ([], 40) st else es.foldl (fun st ds => if st.2 = 0 then encs its ds st else st) (wrN (beb 8 es.length) st)
 | _, _, st => st
def encs : List It → List D → PenS → PenS
 | it :: its, d :: ds, st => encs its ds (enc it d st)
 | _, _, st => st
end
mutual
def cost : It → D → Nat
 | .num, _ => 8
 | .kind, _ => 1
 | .int, _ => 8
 | .is, _ => 8
 | .text, _ => 2050
 | .nums, _ => 8194
 | .list its, .l es => es.foldl (fun c ds => c + costs its ds) 8
 | .list _, _ => 8
def costs : List It → List D → Nat
 | it :: its, d :: ds => cost it d + costs its ds
 | _, _ => 0
end
theorem foldl_cost {α : Type} (f : α → Nat) : ∀ (l : List α) (c : Nat), l.foldl (fun c x => c + f x) c = c + l.foldl (fun c x => c + f x) 0 := by
 intro l
 induction l with
 | nil => intro c; rfl
 | cons x l ih => intro c; rw [List.foldl_cons, List.foldl_cons, ih, ih (0 + f x)]; omega
mutual
theorem enc_len : ∀ (it : It) (d : D) (st : PenS), (enc it d st).1.length ≤ st.1.length + cost it d
 | .num, d, st => by cases d <;> simp [enc, wrN, cost, beb_length]
 | .kind, d, st => by cases d <;> simp [enc, wrN, cost, beb_length]
 | .int, d, st => by cases d <;> simp [enc, wrN, cost, beb_length]
 | .is, d, st => by cases d <;> simp [enc, wrN, cost, beb_length]
 | .text, d, st => by cases d <;> simp [enc, wr, cost, encText_le]
 | .nums, d, st => by cases d <;> simp [enc, wr, cost, encNums_le]
 | .list its, .n _, st => by simp [enc]
 | .list its, .b _, st => by simp [enc]
 | .list its, .s _, st => by simp [enc]
 | .list its, .l es, st => by
  simp only [enc, cost]
  split
  · simp [wr]
  · have key : ∀ (es : List (List D)) (st : PenS) (c : Nat), (es.foldl (fun st ds => if st.2 = 0 then encs its ds st else st) st).1.length + c ≤ st.1.length + es.foldl (fun c ds => c + costs its ds) c := by
     intro es
     induction es with
     | nil => intro st c; exact Nat.le_refl _
     | cons ds es ih =>
      intro st c
      rw [List.foldl_cons, List.foldl_cons]
      have h1 := ih (if st.2 = 0 then encs its ds st else st) (c + costs its ds)
      have h2 : (if st.2 = 0 then encs its ds st else st).1.length ≤ st.1.length + costs its ds := by
       split
       · exact encs_len its ds st
       · omega
      omega
    have := key es (wrN (beb 8 es.length) st) 8
    simp only [wrN, List.length_append, beb_length] at this ⊢
    omega
theorem encs_len : ∀ (its : List It) (ds : List D) (st : PenS), (encs its ds st).1.length ≤ st.1.length + costs its ds
 | [], _, st => by simp [encs]
 | _ :: _, [], st => by simp [encs]
 | it :: its, d :: ds, st => by
  simp only [encs, costs]
  have h1 := enc_len it d st
  have h2 := encs_len its ds (enc it d st)
  omega
end
theorem u64_lt (z : Int) : u64 z < 18446744073709551616 := by unfold u64; omega
theorem wrap_int_u64 (z : Int) : wrapI .u64 z = .ofNat (u64 z) := by
 rw [wrapI_eq, IntKind.wrap_u64]
 unfold u64
 show _ = (((z % 18446744073709551616).toNat : Nat) : Int)
 omega
theorem wrap_back {z : Int} (h1 : -9223372036854775808 ≤ z) (h2 : z < 9223372036854775808) : wrapI .i64 (.ofNat (u64 z)) = z := by
 rw [wrapI_eq, IntKind.wrap_i64]
 unfold u64
 show ((((z % 18446744073709551616).toNat : Nat) : Int) + 9223372036854775808) % 18446744073709551616 - 9223372036854775808 = z
 omega
theorem Bld.same {σ σ' : St} {w : Nat} {B : Nat → Prop} {bs : List UInt8} {t : TypeId} {rest : List Value} (h : Bld σ w B bs t rest) (hn : σ'.n = σ.n) (ho : ∀ j, σ'.obj j = σ.obj j) : Bld σ' w B bs t rest := by
 obtain ⟨a, bf, g1, g2, g3⟩ := h.obj
 refine ⟨h.inB, fun i hi => by rw [hn]; exact h.lt i hi, a, bf, by rw [ho]; exact g1, g2, ?_⟩
 rcases g3 with g3 | ⟨j, olds, k1, k2, k3, k4, k5⟩
 · exact .inl g3
 · exact .inr ⟨j, olds, k1, k2, k3, by rw [ho]; exact k4, k5⟩
theorem CellAt.st {σ : St} {C : Nat → Prop} {b o : Nat} {z : Int} (h : CellAt σ C .int b o (.n z)) : ∃ σ', σ'.n = σ.n ∧ (∀ j, σ'.obj j = σ.obj j) ∧ ∀ k : St → Bool, rSt 1 (pt b o) (.int .i64 z) σ k = k σ' := by
 obtain ⟨vs, e, ck, v, g1, g2, g3, g4⟩ := h.row
 obtain ⟨z', rfl, e', _⟩ := g4.int_inv
 injection e' with e'; subst e'
 rcases g2 with rfl | rfl | ⟨olds, rfl⟩
 · exact ⟨σ, rfl, fun _ => rfl, fun k => rSt_rs g1 g3 k⟩
 · have hlt := (List.getElem?_eq_some_iff.1 g3).1
   have hset : vs.set o (.int .i64 z) = vs := by
    apply List.ext_getElem?; intro j
    rw [List.getElem?_set]
    split
    · rename_i hj; subst hj; rw [g3]
    · rfl
   refine ⟨σ.set b (.cells vs e .exact), rfl, fun j => ?_, fun k => by rw [rSt_exact g1 hlt rfl, hset]⟩
   rw [obj_set]
   split
   · rename_i hj; subst hj; exact g1.symm
   · rfl
 · exact ⟨σ, rfl, fun _ => rfl, fun k => rSt_gr g1 g3 k⟩
theorem meth_number : methT PP 90 "consistory/save.number" = some c_save_pen_number := by kernel_rfl
theorem meth_kind : methT PP 90 "consistory/save.kind" = some c_save_pen_kind := by kernel_rfl
theorem meth_text : methT PP 90 "consistory/save.text" = some c_save_pen_text := by kernel_rfl
theorem meth_nums : methT PP 90 "consistory/save.nums" = some c_save_pen_nums := by kernel_rfl
theorem meth_many : methT PP 90 "consistory/save.many" = some c_save_pen_many := by kernel_rfl
theorem meth_is : methT PP 90 "consistory/save.is" = some c_save_pen_is := by kernel_rfl
theorem meth_wrong : methT PP 90 "consistory/save.wrong" = some c_save_pen_wrong := by kernel_rfl
def encI (ds : List D) (st : PenS) : PenS := ds.foldl (fun st d => enc .int d st) st
theorem whole_loop {n : Nat} {ps : List (Nat × Nat)} {ds : List D} {sb w : Nat} (hl : ps.length = ds.length) :
 ∀ (r i m : Nat) (σ : St) (B : Nat → Prop) (st : PenS) (K : VK), i + r = ds.length → r < m → Pen σ w B st → st.1.length + 8 * r ≤ LIM → sb < σ.n → ¬ B sb → σ.obj sb = some (.cells (ps.map fun p => pt p.1 p.2) 146 .exact) → ds.length < 1000000 →
  (∀ (k : Nat) (p : Nat × Nat) (d : D), ps[k]? = some p → ds[k]? = some d → CellAt σ B .int p.1 p.2 d) →
  (∀ v σ' B', Pen σ' w B' (encI (ds.drop i) st) → Fr' B σ σ' B' → K v σ' = true) →
  l_save_whole_rd (X most (n + 3)) m (hand w) (.slice (some ⟨sb, 0, none⟩) ds.length ds.length) (.int .i64 (.ofNat ds.length)) (.int .i64 (.ofNat i)) σ K = true := by
 intro r
 induction r with
 | zero =>
  intro i m σ B st K hi hm hp _ _ _ _ _ _ hK
  obtain ⟨m, rfl⟩ := Nat.exists_eq_succ_of_ne_zero (show m ≠ 0 by omega)
  rw [l_save_whole_rdE]
  unfold l_save_whole_rdB
  rw [rBin_lssN, rIf_b, if_neg (by simp; omega)]
  refine hK _ σ B ?_ (.refl B σ)
  rw [List.drop_of_length_le (by omega)]
  exact hp
 | succ r ih =>
  intro i m σ B st K hi hm hp hb hsn hsB hso hbig hc hK
  obtain ⟨m, rfl⟩ := Nat.exists_eq_succ_of_ne_zero (show m ≠ 0 by omega)
  rw [l_save_whole_rdE]
  unfold l_save_whole_rdB
  have hlt : i < ds.length := by omega
  rw [rBin_lssN, rIf_b, if_pos (by simp; omega), rIdx_n 1 sb 0 i _ _ hlt]
  have hp1 : ps[i]? = some (ps[i]'(by omega)) := List.getElem?_eq_getElem _
  have hd1 : ds[i]? = some ds[i] := List.getElem?_eq_getElem _
  rw [rLd_h hso (v := pt (ps[i]'(by omega)).1 (ps[i]'(by omega)).2) (by simp [hp1]), rNil_p]
  have hcell := hc i _ _ hp1 hd1
  obtain ⟨v, hv, hld⟩ := hcell.ld
  obtain ⟨z, rfl, ez, z1, z2⟩ := hv.int_inv
  rw [hld, rInt_i, wrap_int_u64, rAlloc_h, rSt_exact obj_new_same (by simp) rfl, rInv_i meth_number]
  have hnB : ¬ B σ.n := fun hb => Nat.lt_irrefl _ (hp.lt _ hb)
  have f1 : Fr' B σ ((σ.new (.cells [.int .u64 (.ofNat 0)] 57 .exact)).set σ.n (.cells [.int .u64 (.ofNat (u64 z))] 57 .exact)) B := (Fr'.new B σ _).set_new (Nat.le_refl _) _
  have h1 : Pen ((σ.new (.cells [.int .u64 (.ofNat 0)] 57 .exact)).set σ.n (.cells [.int .u64 (.ofNat (u64 z))] 57 .exact)) w B st := (hp.new _).set _ hnB _
  refine pen_number (n := n) (z := u64 z) h1 (fun K => rLd_h obj_set_same rfl K) (u64_lt z) (by omega) fun v σ1 B1 hp1' f2 => ?_
  have f := f1.trans f2
  have ho1 : σ1.obj σ.n = some (.cells [.int .u64 (.ofNat (u64 z))] 57 .exact) := by
   rw [f2.same σ.n (by rw [set_n, new_n]; omega) hnB, obj_set_same]
  rw [rLd_h ho1 rfl, rInt_i, wrap_back z1 z2, rNil_p]
  rw [ez] at hcell hd1
  obtain ⟨σ2, e1, e2, e3⟩ := (hcell.fr f).st
  rw [e3, rBin_add _ _ _ _ (by omega)]
  have f3 : Fr' B1 σ1 σ2 B1 := ⟨by omega, fun j _ _ => e2 j, fun _ h => .inl h⟩
  have ff := f.trans f3
  have hsB1 : ¬ B1 sb := fun h => by
   rcases f.sub _ h with h | h
   · exact hsB h
   · omega
  refine ih (i + 1) m σ2 B1 (wrN (beb 8 (u64 z)) st) K (by omega) (by omega) (hp1'.same e1 e2) (by show (st.1 ++ beb 8 (u64 z)).length + _ ≤ _; rw [List.length_append, beb_length]; omega) (by have := ff.n; omega) hsB1 (by rw [ff.same sb hsn hsB]; exact hso) hbig (fun k p d a b => (hc k p d a b).fr ff) fun v σ' B' hp' f' => ?_
  refine hK _ σ' B' ?_ (ff.trans f')
  rw [List.drop_eq_getElem_cons hlt]
  have e4 : ds[i] = .n z := by rw [List.getElem?_eq_getElem hlt] at hd1; injection hd1
  rw [e4]
  exact hp'
theorem whole_s {n : Nat} {ps : List (Nat × Nat)} {ds : List D} {sb w : Nat} {σ : St} {B : Nat → Prop} {st : PenS} {k : Nat} (hk : k = ds.length) (hl : ps.length = ds.length) (hm : ds.length < most) (hp : Pen σ w B st) (hb : st.1.length + 8 * ds.length ≤ LIM) (hsn : sb < σ.n) (hsB : ¬ B sb)
 (hso : σ.obj sb = some (.cells (ps.map fun p => pt p.1 p.2) 146 .exact)) (hbig : ds.length < 1000000) (hc : ∀ (k : Nat) (p : Nat × Nat) (d : D), ps[k]? = some p → ds[k]? = some d → CellAt σ B .int p.1 p.2 d) {K : VK}
 (hK : ∀ v σ' B', Pen σ' w B' (encI ds st) → Fr' B σ σ' B' → K v σ' = true) : (X most (n + 4)).C c_save_whole [hand w, .slice (some ⟨sb, 0, none⟩) k k] σ K = true := by
 subst hk
 rw [X_call (by rfl), f_save_whole]
 unfold r_save_whole
 rw [rLenS_s, X_most]
 exact whole_loop (n := n) hl ds.length 0 most σ B st K (by omega) hm hp hb hsn hsB hso hbig hc (by rw [List.drop_zero]; exact hK)
end Go.Am

namespace Go.Am
open Go.RowKit Go.MapKept Go.Proofs Go.Proofs.Rdr
variable {most : Nat}
structure G (σ : St) (w : Nat) (B : Nat → Prop) (st : PenS) (b o : Nat) (all : List It) (ds : List D) (j : Nat) (its : List It) (K : VK) : Prop where
 pen : Pen σ w B st
 stc : Stc σ B all b o ds
 lim : st.1.length + costs its (ds.drop j) ≤ LIM
 hK : ∀ v σ' B', Pen σ' w B' (encs its (ds.drop j) st) → Fr' B σ σ' B' → K v σ' = true
theorem G.next {σ σ' : St} {w : Nat} {B B' : Nat → Prop} {st : PenS} {b o : Nat} {all : List It} {ds : List D} {j : Nat} {it : It} {its : List It} {K : VK} {d : D}
 (g : G σ w B st b o all ds j (it :: its) K) (hd : ds[j]? = some d) (hp : Pen σ' w B' (enc it d st)) (f : Fr' B σ σ' B') : G σ' w B' (enc it d st) b o all ds (j + 1) its K := by
 have hlt := (List.getElem?_eq_some_iff.1 hd).1
 have e : ds.drop j = d :: ds.drop (j + 1) := by
  rw [List.drop_eq_getElem_cons hlt]; congr 1; exact (List.getElem?_eq_some_iff.1 hd).2
 refine ⟨hp, g.stc.fr f, ?_, fun v σ2 B2 hp2 f2 => g.hK v σ2 B2 ?_ (f.trans f2)⟩
 · have h1 := g.lim
   rw [e] at h1
   have h2 := enc_len it d st
   simp only [costs] at h1
   omega
 · rw [e]; exact hp2
theorem G.cost {σ : St} {w : Nat} {B : Nat → Prop} {st : PenS} {b o : Nat} {all : List It} {ds : List D} {j : Nat} {it : It} {its : List It} {K : VK} {d : D}
 (g : G σ w B st b o all ds j (it :: its) K) (hd : ds[j]? = some d) : st.1.length + cost it d ≤ LIM := by
 have hlt := (List.getElem?_eq_some_iff.1 hd).1
 have e : ds.drop j = d :: ds.drop (j + 1) := by
  rw [List.drop_eq_getElem_cons hlt]; congr 1; exact (List.getElem?_eq_some_iff.1 hd).2
 have h1 := g.lim
 rw [e] at h1
 simp only [costs] at h1
 omega
section
variable {n : Nat} {σ : St} {w : Nat} {B : Nat → Prop} {st : PenS} {b o : Nat} {all : List It} {ds : List D} {j : Nat} {its : List It} {K K0 : VK}
theorem G.fin (g : G σ w B st b o all ds j [] K) (v : Value) : K v σ = true := g.hK v σ B (by simpa [encs] using g.pen) (.refl B σ)
theorem step_number (_hm : 1024 < most) (g : G σ w B st b o all ds j (.num :: its) K) (hj : all[j]? = some .num) (next : ∀ v σ' B' st', G σ' w B' st' b o all ds (j + 1) its K → K0 v σ' = true) :
 (X most (n + 4)).C c_save_pen_number [pt w 0, pt b (o + j)] σ K0 = true := by
 obtain ⟨d, hd, hc⟩ := g.stc.cell j hj
 obtain ⟨v, hv, hld⟩ := hc.ld
 obtain ⟨z, rfl, rfl, hz⟩ := hv.num_inv
 exact pen_number (n := n + 1) g.pen hld hz (g.cost hd) fun v σ' B' hp f => next v σ' B' _ (g.next hd hp f)
theorem step_kind (_hm : 1024 < most) (g : G σ w B st b o all ds j (.kind :: its) K) (hj : all[j]? = some .kind) (next : ∀ v σ' B' st', G σ' w B' st' b o all ds (j + 1) its K → K0 v σ' = true) :
 (X most (n + 4)).C c_save_pen_kind [pt w 0, pt b (o + j)] σ K0 = true := by
 obtain ⟨d, hd, hc⟩ := g.stc.cell j hj
 obtain ⟨v, hv, hld⟩ := hc.ld
 obtain ⟨z, rfl, rfl, hz⟩ := hv.kind_inv
 exact pen_kind (n := n + 1) g.pen hld hz (g.cost hd) fun v σ' B' hp f => next v σ' B' _ (g.next hd hp f)
theorem step_text (hm : 1024 < most) (g : G σ w B st b o all ds j (.text :: its) K) (hj : all[j]? = some .text) (next : ∀ v σ' B' st', G σ' w B' st' b o all ds (j + 1) its K → K0 v σ' = true) :
 (X most (n + 4)).C c_save_pen_text [pt w 0, pt b (o + j)] σ K0 = true := by
 obtain ⟨d, hd, hc⟩ := g.stc.cell j hj
 obtain ⟨v, hv, hld⟩ := hc.ld
 obtain ⟨l, rfl, rfl, _⟩ := hv.text_inv
 exact pen_text (n := n) g.pen (by omega) hc (g.cost hd) fun v σ' B' hp f => next v σ' B' _ (g.next hd hp f)
theorem step_nums (hm : 1024 < most) (g : G σ w B st b o all ds j (.nums :: its) K) (hj : all[j]? = some .nums) (next : ∀ v σ' B' st', G σ' w B' st' b o all ds (j + 1) its K → K0 v σ' = true) :
 (X most (n + 4)).C c_save_pen_nums [pt w 0, pt b (o + j)] σ K0 = true := by
 obtain ⟨d, hd, hc⟩ := g.stc.cell j hj
 obtain ⟨v, hv, hld⟩ := hc.ld
 have hv' : ∃ es, d = .l es ∧ Rd σ B (.list [.num]) v (.l es) := by cases hv with | nums h => exact ⟨_, rfl, h⟩
 obtain ⟨es, rfl, hr⟩ := hv'
 obtain ⟨ns, rfl⟩ := nums_data hr
 have e : (ns.map fun z : Nat => [D.n (z : Int)]).map numOf = ns := by
  rw [List.map_map]
  have : (numOf ∘ fun z : Nat => [D.n (z : Int)]) = id := by funext z; rfl
  rw [this, List.map_id]
 refine pen_nums (n := n) g.pen hm hc (g.cost hd) fun v σ' B' hp f => next v σ' B' _ (g.next hd ?_ f)
 simpa [enc, e] using hp
theorem step_is (_hm : 1024 < most) (g : G σ w B st b o all ds j (.is :: its) K) (hj : all[j]? = some .is) (next : ∀ v σ' B' st', G σ' w B' st' b o all ds (j + 1) its K → K0 v σ' = true) :
 (X most (n + 4)).C c_save_pen_is [pt w 0, pt b (o + j)] σ K0 = true := by
 obtain ⟨d, hd, hc⟩ := g.stc.cell j hj
 obtain ⟨v, hv, hld⟩ := hc.ld
 obtain ⟨t, rfl, rfl⟩ := hv.is_inv
 exact pen_is (n := n) g.pen hc (g.cost hd) fun v σ' B' hp f => next v σ' B' _ (g.next hd hp f)
theorem encI_len : ∀ (el : List D) (st : PenS), (encI el st).1.length ≤ st.1.length + 8 * el.length := by
 intro el
 induction el with
 | nil => intro st; simp [encI]
 | cons d el ih =>
  intro st
  have h1 := ih (enc .int d st)
  have h2 := enc_len .int d st
  simp only [cost] at h2
  show (encI el (enc .int d st)).1.length ≤ _
  rw [List.length_cons]
  omega
theorem step_whole (hm : 1024 < most) (k : Nat) (hk : k ≤ 100) (g : G σ w B st b o all ds j (List.replicate k .int ++ its) K) (hj : ∀ i, i < k → all[j + i]? = some .int) (next : ∀ v σ' B' st', G σ' w B' st' b o all ds (j + k) its K → K0 v σ' = true) :
 (X most (n + 4)).C c_save_whole [hand w, .slice (some ⟨σ.n, 0, none⟩) k k] (σ.new (.cells ((List.range k).map fun i => pt b (o + (j + i))) 146 .exact)) K0 = true := by
 have hall : ∀ i, i < k → ∃ d, ds[j + i]? = some d ∧ CellAt σ B .int b (o + (j + i)) d := fun i hi => g.stc.cell (j + i) (hj i hi)
 have hdl : j + k ≤ ds.length ∨ k = 0 := by
  rcases Nat.eq_zero_or_pos k with h | h
  · exact .inr h
  · obtain ⟨d, hd, _⟩ := hall (k - 1) (by omega)
    have := (List.getElem?_eq_some_iff.1 hd).1
    exact .inl (by omega)
 let el := (ds.drop j).take k
 have hel : el.length = k := by
  show ((ds.drop j).take k).length = k
  rw [List.length_take, List.length_drop]; omega
 have helg : ∀ i, i < k → el[i]? = ds[j + i]? := fun i hi => by
  show ((ds.drop j).take k)[i]? = _
  rw [List.getElem?_take, if_pos hi, List.getElem?_drop]
 have hnB : ¬ B σ.n := fun hb => Nat.lt_irrefl _ (g.pen.lt _ hb)
 have f1 : Fr' B σ (σ.new (.cells ((List.range k).map fun i => pt b (o + (j + i))) 146 .exact)) B := .new B σ _
 -- what the rest is
 have hrest : ∀ (i : Nat), i ≤ k → ∀ (st : PenS), encs (List.replicate (k - i) .int ++ its) (ds.drop (j + i)) st = encs its (ds.drop (j + k)) (encI (el.drop i) st) ∧ costs (List.replicate (k - i) .int ++ its) (ds.drop (j + i)) = 8 * (k - i) + costs its (ds.drop (j + k)) := by
  intro i hi
  generalize hr : k - i = r
  induction r generalizing i with
  | zero =>
   intro st
   have : i = k := by omega
   subst this
   have e0 : el.drop i = [] := List.drop_of_length_le (by omega)
   rw [e0]
   exact ⟨rfl, by simp⟩
  | succ r ih =>
   intro st
   obtain ⟨d, hd, _⟩ := hall i (by omega)
   have hlt := (List.getElem?_eq_some_iff.1 hd).1
   have e : ds.drop (j + i) = d :: ds.drop (j + (i + 1)) := by
    rw [List.drop_eq_getElem_cons hlt]; congr 1; exact (List.getElem?_eq_some_iff.1 hd).2
   have e2 : el.drop i = d :: el.drop (i + 1) := by
    have : el[i]? = some d := by rw [helg i (by omega)]; exact hd
    have hl2 := (List.getElem?_eq_some_iff.1 this).1
    rw [List.drop_eq_getElem_cons hl2]; congr 1; exact (List.getElem?_eq_some_iff.1 this).2
   obtain ⟨i1, i2⟩ := ih (i + 1) (by omega) (by omega) (enc .int d st)
   rw [e, e2]
   refine ⟨i1, ?_⟩
   show cost .int d + costs (List.replicate r .int ++ its) (ds.drop (j + (i + 1))) = _
   rw [i2]
   show 8 + _ = _
   omega
 obtain ⟨q1, q2⟩ := hrest 0 (by omega) st
 simp only [Nat.sub_zero, Nat.add_zero, List.drop_zero] at q1 q2
 have hlim := g.lim
 rw [q2] at hlim
 refine whole_s (n := n) (ps := (List.range k).map fun i => (b, o + (j + i))) (ds := el) (sb := σ.n) hel.symm (by simp [hel]) (by omega) (g.pen.new _) (by rw [hel]; omega) (by rw [new_n]; omega) hnB (by rw [obj_new_same, List.map_map]; rfl) (by omega) (fun i p d hp hd => ?_) fun v σ' B' hp f => ?_
 · have hi : i < k := by have := (List.getElem?_eq_some_iff.1 hd).1; omega
   rw [List.getElem?_map, List.getElem?_range hi] at hp
   injection hp with hp
   subst hp
   obtain ⟨d', hd', hc⟩ := hall i hi
   rw [helg i hi, hd'] at hd
   injection hd with hd
   subst hd
   exact hc.fr f1
 · refine next v σ' B' _ ⟨hp, g.stc.fr (f1.trans f), ?_, fun v2 σ2 B2 hp2 f2 => g.hK v2 σ2 B2 (by rw [q1]; exact hp2) ((f1.trans f).trans f2)⟩
   have hel2 : (encI el st).1.length ≤ st.1.length + 8 * el.length := encI_len el st
   rw [hel] at hel2
   omega
def PenOk (most : Nat) (c : FuncId) (its : List It) (d : Nat) : Prop := ∀ (n : Nat) {σ : St} {w : Nat} {B : Nat → Prop} {st : PenS} {b o : Nat} {ds : List D} {K : VK}, G σ w B st b o its ds 0 its K → (X most (n + d)).C c [hand w, pt b o] σ K = true
def EachOk (most : Nat) (c one : FuncId) (its : List It) (d : Nat) : Prop := ∀ (n : Nat) {σ : St} {w : Nat} {B : Nat → Prop} {st : PenS} {b o : Nat} {es : List (List D)} {K : VK}, Pen σ w B st → CellAt σ B (.list its) b o (.l es) → st.1.length + cost (.list its) (.l es) ≤ LIM →
 (∀ v σ' B', Pen σ' w B' (enc (.list its) (.l es) st) → Fr' B σ σ' B' → K v σ' = true) → (X most (n + d)).C c [hand w, pt b o, .func (.func one) #[] #[]] σ K = true
theorem step_list {c one : FuncId} {d : Nat} {its' : List It} (he : EachOk most c one its' d) (g : G σ w B st b o all ds j (.list its' :: its) K) (hj : all[j]? = some (.list its')) (next : ∀ v σ' B' st', G σ' w B' st' b o all ds (j + 1) its K → K0 v σ' = true) :
 (X most (n + d)).C c [hand w, pt b (o + j), .func (.func one) #[] #[]] σ K0 = true := by
 obtain ⟨dd, hd, hc⟩ := g.stc.cell j hj
 obtain ⟨v, hv, hld⟩ := hc.ld
 obtain ⟨es, rfl⟩ := hv.list_inv
 exact he n g.pen hc (g.cost hd) fun v σ' B' hp f => next v σ' B' _ (g.next hd hp f)
theorem encs_append : ∀ (a b : List It) (ds : List D) (st : PenS), a.length ≤ ds.length → encs (a ++ b) ds st = encs b (ds.drop a.length) (encs a (ds.take a.length) st) ∧ costs (a ++ b) ds = costs a (ds.take a.length) + costs b (ds.drop a.length) := by
 intro a
 induction a with
 | nil => intro b ds st _; simp [encs, costs]
 | cons x a ih =>
  intro b ds st h
  cases ds with
  | nil => simp at h
  | cons d ds =>
   obtain ⟨i1, i2⟩ := ih b ds (enc x d st) (by simpa using h)
   refine ⟨by simpa [encs] using i1, ?_⟩
   simp only [List.cons_append, costs, List.length_cons, List.take_succ_cons, List.drop_succ_cons, i2]
   omega
theorem step_sub {c : FuncId} {d : Nat} {its' : List It} (hf : PenOk most c its' d) (g : G σ w B st b o all ds j (its' ++ its) K) (hj : (all.drop j).take its'.length = its') (hle : j + its'.length ≤ all.length) (next : ∀ v σ' B' st', G σ' w B' st' b o all ds (j + its'.length) its K → K0 v σ' = true) :
 (X most (n + d)).C c [hand w, pt b (o + j)] σ K0 = true := by
 have hlen := g.stc.len
 obtain ⟨q1, q2⟩ := encs_append its' its (ds.drop j) st (by rw [List.length_drop]; omega)
 rw [List.drop_drop] at q1 q2
 have hlim := g.lim
 rw [q2] at hlim
 have hpart := g.stc.part j its'.length hle
 rw [hj] at hpart
 refine hf n ⟨g.pen, hpart, ?_, fun v σ' B' hp f => ?_⟩
 · rw [List.drop_zero]; omega
 · rw [List.drop_zero] at hp
   refine next v σ' B' _ ⟨hp, g.stc.fr f, ?_, fun v2 σ2 B2 hp2 f2 => g.hK v2 σ2 B2 (by rw [q1]; exact hp2) (f.trans f2)⟩
   have := encs_len its' ((ds.drop j).take its'.length) st
   omega
end
theorem rCallV_0 (call : CallT) (round : Nat → List Value → St → VK → Bool) (g : FuncId) (a : List Value) (σ : St) (K : VK) : rCallV call round (.func (.func g) #[] #[]) a σ K = call g a σ K := rCallV_f call round g a σ K
theorem bcase_t (a b : Bool) : bcase true a b = a := rfl
theorem rSame_v {v : Value} (h : sameV v v = true) (k : Bool) : rSame v v k = k := by unfold rSame; rw [h]
def partsOf : List Value → Nat → List (Nat × Nat × Value)
 | [], _ => []
 | v :: vs, i => (i, 1, v) :: partsOf vs (i + 1)
theorem rFill_parts (k : List Value → Bool) : ∀ (vs : List Value) (pre : List Value) (z : Value), (∀ v ∈ vs, oneCell v = true) → rFill (partsOf vs pre.length) (pre ++ List.replicate vs.length z) k = k (pre ++ vs) := by
 intro vs
 induction vs with
 | nil => intro pre z _; simp [partsOf, rFill, lrec_nil]
 | cons v vs ih =>
  intro pre z h
  show cellsOfK v (fun new => lenK new fun m => match Nat.beq m 1 with
   | true => spliceK pre.length new (pre ++ List.replicate (vs.length + 1) z) fun cs => rFill (partsOf vs (pre.length + 1)) cs k
   | false => false) = _
  rw [cellsOf_one (h v (.head _)), lenK_eq]
  show spliceK pre.length [v] (pre ++ List.replicate (vs.length + 1) z) _ = _
  rw [spliceK_eq, if_pos (by simp)]
  have e : splice pre.length [v] (pre ++ List.replicate (vs.length + 1) z) = (pre ++ [v]) ++ List.replicate vs.length z := by
   unfold splice
   rw [List.replicate_succ]
   simp
  rw [e]
  have := ih (pre ++ [v]) z fun u hu => h u (.tail _ hu)
  rw [List.length_append] at this
  rw [List.append_assoc, List.singleton_append] at this
  have e2 : pre ++ v :: List.replicate vs.length z = pre ++ [v] ++ List.replicate vs.length z := by simp
  rw [← e2]
  simpa using this
theorem rep_flatten (z : Value) : ∀ (n : Nat) (acc : List Value) (k : List Value → Bool), (nrec (β := List Value → Bool) (fun acc => k acc) (fun _ ih acc => appK [z] acc ih) n) acc = k (List.replicate n z ++ acc) := by
 intro n
 induction n with
 | zero => intro acc k; rfl
 | succ n ih =>
  intro acc k
  show appK [z] acc _ = _
  rw [appK_eq]
  show (nrec (β := List Value → Bool) (fun acc => k acc) (fun _ ih acc => appK [z] acc ih) n) ([z] ++ acc) = _
  rw [ih]
  congr 1
  rw [← List.append_assoc, ← List.replicate_succ']
theorem rBuildS_ones (el : TypeId) (z : Value) (vs : List Value) (h : ∀ v ∈ vs, oneCell v = true) (σ : St) (K : VK) : rBuildS el vs.length [z] (partsOf vs 0) σ K = K (.slice (some ⟨σ.n, 0, none⟩) vs.length vs.length) (σ.new (.cells vs el .exact)) := by
 unfold rBuildS repK
 rw [rep_flatten]
 have := rFill_parts (fun cs => newK σ (.cells cs el .exact) fun i σ => K (.slice (some ⟨i, 0, none⟩) vs.length vs.length) σ) vs [] z h
 rw [List.append_nil]
 refine Eq.trans this ?_
 rw [newK_eq]
 rfl
end Go.Am

namespace Go.Am
open Go.RowKit Go.MapKept Go.Proofs Go.Proofs.Rdr
variable {most : Nat}
noncomputable def growB (zs : List Value) (el sz bytes : Nat) (t1 : Value) (j : St → Bool) (σ : St) : Bool :=
 rAlloc zs el σ fun v11 σ => rNil PP t1 fun v12 => rLd v12 σ fun v13 σ => rLdN sz v11 σ fun v14 σ => rLdN sz v11 σ fun v15 σ => rSame v15 v14 (rLd v12 σ fun v16 σ => rSame v16 v13 (bcase (rBuildS el 1 zs [(0, sz, v14)] σ fun _ _ => true)
  (rBuildS el 1 zs [(0, sz, v14)] σ fun v18 σ => rApp PP el sz bytes v13 v18 σ fun v19 σ => rNil PP t1 fun v20 => rSt 1 v20 v19 σ j) false))
noncomputable def grow1 (z : Value) (el bytes : Nat) (t1 : Value) (j : St → Bool) (σ : St) : Bool :=
 rNil PP t1 fun v11 => rLd v11 σ fun v12 σ => rBuildS el 1 [z] [(0, 1, z)] σ fun v13 σ => rApp PP el 1 bytes v12 v13 σ fun v14 σ => rNil PP t1 fun v15 => rSt 1 v15 v14 σ j
structure EachT (c : FuncId) (sz : Nat) (G : Value → (St → Bool) → St → Bool) where
 L : EV → Nat → Value → Value → Value → Value → Value → St → VK → Bool
 J : EV → Nat → Value → Value → Value → Value → Value → St → VK → Bool
 R : ∀ (x : EV) (a0 a1 a2 : Value) (σ : St) (K : VK), fnX PP tbS c (x.E PP) [a0, a1, a2] σ K = rNil PP a1 fun v0 => rLd v0 σ fun v1 σ => rLenS v1 fun v2 => rNil PP (.func (.method "consistory/save.many") ⟨[a0]⟩ ⟨[]⟩) fun _ =>
  rInv PP x.C a0 "consistory/save.many" [v2] σ fun v4 σ => rLd v0 σ fun v5 σ => rSame v5 v1 (L x x.most a0 a1 a2 v4 zI σ K)
 LE : ∀ (x : EV) (m : Nat) (t0 t1 t2 t6 t7 : Value) (σ : St) (K : VK), L x (m + 1) t0 t1 t2 t6 t7 σ K = rBin PP .lss 3 t7 t6 fun v0 => shut x.most (rGuard true v0 (fun k => k t0 σ) σ fun v1 σ =>
  shut x.most (rGuard true v0 (fun k => rInv PP x.C v1 "consistory/save.wrong" [] σ fun v2 σ => k v2 σ) σ fun v3 σ => shut x.most (rGuard true v0 (fun k => rBin PP .eql 37 v3 zI fun v4 => k v4 σ) σ fun v5 σ =>
  shut x.most (rPick v0 v5 zF fun v6 => rIf v6 (rNil PP t1 fun v7 => rLd v7 σ fun v8 σ => rLenS v8 fun v9 => rBin PP .eql 3 t7 v9 fun v10 => rIf v10 (G t1 (fun σ => J x m t0 t1 t2 t6 t7 σ K) σ) (J x m t0 t1 t2 t6 t7 σ K)) (K (.tuple ⟨[]⟩) σ)))))
 JE : ∀ (x : EV), x.most ≠ 0 → ∀ (m : Nat) (t0 t1 t2 t6 t7 : Value) (σ : St) (K : VK), J x m t0 t1 t2 t6 t7 σ K = rNil PP t1 fun v0 => rLd v0 σ fun v1 σ => rIdx sz v1 t7 fun v2 => rCallV x.C x.R t2 [t0, v2] σ fun _ σ =>
  rBin PP .add 3 t7 (.int .i64 (.ofNat 1)) fun v4 => L x m t0 t1 t2 t6 v4 σ K
 ov : ovS1 c = none
noncomputable def eT_string : EachT c_save_each_string 1 (grow1 zS 9 16) := ⟨l_save_each_string_rrd, j_save_each_string_rrddrldr, fun x a0 a1 a2 σ K => by kernel_rfl, fun x m t0 t1 t2 t6 t7 σ K => by kernel_rfl,
 fun x hm m t0 t1 t2 t6 t7 σ K => (jmpJ_eq c_save_each_string (x.E PP) [.r, .r, .d, .d, .r, .l, .d, .r] [m] [t0, t1, t2, t6, t7] σ K hm).trans (by kernel_rfl), by rfl⟩
noncomputable def eT_list_uint64 : EachT c_save_each_list_uint64 1 (grow1 zL 60 24) := ⟨l_save_each_list_uint64_rrd, j_save_each_list_uint64_rrddrldr, fun x a0 a1 a2 σ K => by kernel_rfl, fun x m t0 t1 t2 t6 t7 σ K => by kernel_rfl,
 fun x hm m t0 t1 t2 t6 t7 σ K => (jmpJ_eq c_save_each_list_uint64 (x.E PP) [.r, .r, .d, .d, .r, .l, .d, .r] [m] [t0, t1, t2, t6, t7] σ K hm).trans (by kernel_rfl), by rfl⟩
noncomputable def eT_api_Pair : EachT c_save_each_api_Pair 2 (growB [(.int .u64 (.ofNat 0)), (.int .u64 (.ofNat 0))] 59 2 16) := ⟨l_save_each_api_Pair_rrd, j_save_each_api_Pair_rrddrldr, fun x a0 a1 a2 σ K => by kernel_rfl, fun x m t0 t1 t2 t6 t7 σ K => by kernel_rfl,
 fun x hm m t0 t1 t2 t6 t7 σ K => (jmpJ_eq c_save_each_api_Pair (x.E PP) [.r, .r, .d, .d, .r, .l, .d, .r] [m] [t0, t1, t2, t6, t7] σ K hm).trans (by kernel_rfl), by rfl⟩
noncomputable def eT_api_Msg : EachT c_save_each_api_Msg 11 (growB [(.int .u8 (.ofNat 0)), zI, zI, zI, zI, zI, zI, zI, zI, zS, zL] 62 11 112) := ⟨l_save_each_api_Msg_rrd, j_save_each_api_Msg_rrddrldr, fun x a0 a1 a2 σ K => by kernel_rfl, fun x m t0 t1 t2 t6 t7 σ K => by kernel_rfl,
 fun x hm m t0 t1 t2 t6 t7 σ K => (jmpJ_eq c_save_each_api_Msg (x.E PP) [.r, .r, .d, .d, .r, .l, .d, .r] [m] [t0, t1, t2, t6, t7] σ K hm).trans (by kernel_rfl), by rfl⟩
noncomputable def eT_tally_Vote : EachT c_save_each_tally_Vote 5 (growB [zI, zI, (.int .u8 (.ofNat 0)), zI, zS] 71 5 48) := ⟨l_save_each_tally_Vote_rrd, j_save_each_tally_Vote_rrddrldr, fun x a0 a1 a2 σ K => by kernel_rfl, fun x m t0 t1 t2 t6 t7 σ K => by kernel_rfl,
 fun x hm m t0 t1 t2 t6 t7 σ K => (jmpJ_eq c_save_each_tally_Vote (x.E PP) [.r, .r, .d, .d, .r, .l, .d, .r] [m] [t0, t1, t2, t6, t7] σ K hm).trans (by kernel_rfl), by rfl⟩
noncomputable def eT_board_Told : EachT c_save_each_board_Told 2 (growB [zI, zS] 73 2 24) := ⟨l_save_each_board_Told_rrd, j_save_each_board_Told_rrddrldr, fun x a0 a1 a2 σ K => by kernel_rfl, fun x m t0 t1 t2 t6 t7 σ K => by kernel_rfl,
 fun x hm m t0 t1 t2 t6 t7 σ K => (jmpJ_eq c_save_each_board_Told (x.E PP) [.r, .r, .d, .d, .r, .l, .d, .r] [m] [t0, t1, t2, t6, t7] σ K hm).trans (by kernel_rfl), by rfl⟩
noncomputable def eT_avss_Told : EachT c_save_each_avss_Told 2 (growB [zI, zL] 142 2 32) := ⟨l_save_each_avss_Told_rrd, j_save_each_avss_Told_rrddrldr, fun x a0 a1 a2 σ K => by kernel_rfl, fun x m t0 t1 t2 t6 t7 σ K => by kernel_rfl,
 fun x hm m t0 t1 t2 t6 t7 σ K => (jmpJ_eq c_save_each_avss_Told (x.E PP) [.r, .r, .d, .d, .r, .l, .d, .r] [m] [t0, t1, t2, t6, t7] σ K hm).trans (by kernel_rfl), by rfl⟩
noncomputable def eT_node_Done : EachT c_save_each_node_Done 3 (growB [zI, zI, zL] 69 3 40) := ⟨l_save_each_node_Done_rrd, j_save_each_node_Done_rrddrldr, fun x a0 a1 a2 σ K => by kernel_rfl, fun x m t0 t1 t2 t6 t7 σ K => by kernel_rfl,
 fun x hm m t0 t1 t2 t6 t7 σ K => (jmpJ_eq c_save_each_node_Done (x.E PP) [.r, .r, .d, .d, .r, .l, .d, .r] [m] [t0, t1, t2, t6, t7] σ K hm).trans (by kernel_rfl), by rfl⟩
noncomputable def eT_avss_State : EachT c_save_each_avss_State 8 (growB [zI, zI, zL, zL, zL, zL, zL, zF] 125 8 144) := ⟨l_save_each_avss_State_rrd, j_save_each_avss_State_rrddrldr, fun x a0 a1 a2 σ K => by kernel_rfl, fun x m t0 t1 t2 t6 t7 σ K => by kernel_rfl,
 fun x hm m t0 t1 t2 t6 t7 σ K => (jmpJ_eq c_save_each_avss_State (x.E PP) [.r, .r, .d, .d, .r, .l, .d, .r] [m] [t0, t1, t2, t6, t7] σ K hm).trans (by kernel_rfl), by rfl⟩
end Go.Am

namespace Go.Am
open Go.RowKit Go.MapKept Go.Proofs Go.Proofs.Rdr
variable {most : Nat}
def itsText : List It := [.text]
def itsNums : List It := [.nums]
def itsPair : List It := [.num, .num]
def itsMsg : List It := [.kind, .int, .int, .int, .int, .int, .int, .int, .int, .text, .nums]
def itsVote : List It := [.int, .int, .kind, .int, .text]
def itsSaid : List It := [.int, .text]
def itsTold : List It := [.int, .nums]
def itsDone : List It := [.int, .int, .nums]
def itsDealing : List It := [.int, .int, .list itsNums, .nums, .list itsTold, .list itsTold, .nums, .is]
def itsVoting : List It := [.int, .int, .int, .int, .int, .int, .int, .text, .text, .int, .int, .is, .is, .text, .list itsVote]
def itsRows : List It := [.int, .text, .is, .int, .int, .int, .int, .int, .int, .int, .text, .text, .int, .int, .is, .is, .text, .list itsVote, .list itsSaid, .list itsMsg]
def itsAll : List It := [.int, .list itsText, .int, .text, .is, .int, .int, .int, .int, .int, .int, .int, .text, .text, .int, .int, .is, .is, .text, .list itsVote, .list itsSaid, .list itsMsg, .list itsText, .list itsPair, .list itsPair, .is, .list itsDealing, .list itsDone, .list itsMsg, .list itsDealing]

theorem rB1 (v0 : Addr) (σ : St) (K : VK) : rBuildS 146 1 [.pointer none] [(0, 1, .pointer (some v0))] σ K = K (.slice (some ⟨σ.n, 0, none⟩) 1 1) (σ.new (.cells [.pointer (some v0)] 146 .exact)) :=
 rBuildS_ones 146 (.pointer none) [.pointer (some v0)] (by simp [oneCell]) σ K
theorem rB2 (v0 v1 : Addr) (σ : St) (K : VK) : rBuildS 146 2 [.pointer none] [(0, 1, .pointer (some v0)), (1, 1, .pointer (some v1))] σ K = K (.slice (some ⟨σ.n, 0, none⟩) 2 2) (σ.new (.cells [.pointer (some v0), .pointer (some v1)] 146 .exact)) :=
 rBuildS_ones 146 (.pointer none) [.pointer (some v0), .pointer (some v1)] (by simp [oneCell]) σ K
theorem rB7 (v0 v1 v2 v3 v4 v5 v6 : Addr) (σ : St) (K : VK) : rBuildS 146 7 [.pointer none] [(0, 1, .pointer (some v0)), (1, 1, .pointer (some v1)), (2, 1, .pointer (some v2)), (3, 1, .pointer (some v3)), (4, 1, .pointer (some v4)), (5, 1, .pointer (some v5)), (6, 1, .pointer (some v6))] σ K = K (.slice (some ⟨σ.n, 0, none⟩) 7 7) (σ.new (.cells [.pointer (some v0), .pointer (some v1), .pointer (some v2), .pointer (some v3), .pointer (some v4), .pointer (some v5), .pointer (some v6)] 146 .exact)) :=
 rBuildS_ones 146 (.pointer none) [.pointer (some v0), .pointer (some v1), .pointer (some v2), .pointer (some v3), .pointer (some v4), .pointer (some v5), .pointer (some v6)] (by simp [oneCell]) σ K
theorem rB8 (v0 v1 v2 v3 v4 v5 v6 v7 : Addr) (σ : St) (K : VK) : rBuildS 146 8 [.pointer none] [(0, 1, .pointer (some v0)), (1, 1, .pointer (some v1)), (2, 1, .pointer (some v2)), (3, 1, .pointer (some v3)), (4, 1, .pointer (some v4)), (5, 1, .pointer (some v5)), (6, 1, .pointer (some v6)), (7, 1, .pointer (some v7))] σ K = K (.slice (some ⟨σ.n, 0, none⟩) 8 8) (σ.new (.cells [.pointer (some v0), .pointer (some v1), .pointer (some v2), .pointer (some v3), .pointer (some v4), .pointer (some v5), .pointer (some v6), .pointer (some v7)] 146 .exact)) :=
 rBuildS_ones 146 (.pointer none) [.pointer (some v0), .pointer (some v1), .pointer (some v2), .pointer (some v3), .pointer (some v4), .pointer (some v5), .pointer (some v6), .pointer (some v7)] (by simp [oneCell]) σ K
theorem pen_text' (hm : 1024 < most) : PenOk most c_save_text itsText 5 := by
 intro n σ w B st b o ds K g
 rw [X_call (by rfl), f_save_text]
 unfold r_save_text
 rw [rInv_i meth_text]
 refine step_text (n := n + 0) (its := []) (j := 0) hm g rfl fun v σ B st g => ?_
 exact g.fin _

theorem pen_nums' (hm : 1024 < most) : PenOk most c_save_nums itsNums 5 := by
 intro n σ w B st b o ds K g
 rw [X_call (by rfl), f_save_nums]
 unfold r_save_nums
 rw [rInv_i meth_nums]
 refine step_nums (n := n + 0) (its := []) (j := 0) hm g rfl fun v σ B st g => ?_
 exact g.fin _

theorem pen_pair' (hm : 1024 < most) : PenOk most c_save_pair itsPair 5 := by
 intro n σ w B st b o ds K g
 rw [X_call (by rfl), f_save_pair]
 unfold r_save_pair
 rw [rNil_p, rFld_p, rNil_m meth_number, rInv_i meth_number]
 refine step_number (n := n + 0) (its := [.num]) hm g rfl fun v σ B st g => ?_
 rw [rNil_p, rFld_p, rNil_m meth_number, rInv_i meth_number]
 refine step_number (n := n + 0) (its := []) hm g rfl fun v σ B st g => ?_
 exact g.fin _

theorem pen_message' (hm : 1024 < most) : PenOk most c_save_message itsMsg 5 := by
 intro n σ w B st b o ds K g
 rw [X_call (by rfl), f_save_message]
 unfold r_save_message
 rw [rNil_p, rFld_p, rNil_m meth_kind, rInv_i meth_kind]
 refine step_kind (n := n + 0) (its := [.int, .int, .int, .int, .int, .int, .int, .int, .text, .nums]) hm g rfl fun v σ B st g => ?_
 rw [rNil_p, rFld_p, rNil_p, rFld_p, rNil_p, rFld_p, rNil_p, rFld_p, rNil_p, rFld_p, rNil_p, rFld_p, rNil_p, rFld_p, rNil_p, rFld_p]
 rw [rB8, bcase_t, rB8]
 refine step_whole (n := n + 0) (its := [.text, .nums]) hm 8 (by omega) g (by
  intro i hi
  have h : i = 0 ∨ i = 1 ∨ i = 2 ∨ i = 3 ∨ i = 4 ∨ i = 5 ∨ i = 6 ∨ i = 7 := by omega
  rcases h with rfl | rfl | rfl | rfl | rfl | rfl | rfl | rfl <;> rfl) fun v σ B st g => ?_
 rw [rNil_p, rFld_p, rNil_m meth_text, rInv_i meth_text]
 refine step_text (n := n + 0) (its := [.nums]) hm g rfl fun v σ B st g => ?_
 rw [rNil_p, rFld_p, rNil_m meth_nums, rInv_i meth_nums]
 refine step_nums (n := n + 0) (its := []) hm g rfl fun v σ B st g => ?_
 exact g.fin _

theorem pen_vote' (hm : 1024 < most) : PenOk most c_save_vote itsVote 5 := by
 intro n σ w B st b o ds K g
 rw [X_call (by rfl), f_save_vote]
 unfold r_save_vote
 rw [rNil_p, rFld_p, rNil_p, rFld_p]
 rw [rB2, bcase_t, rB2]
 refine step_whole (n := n + 0) (its := [.kind, .int, .text]) hm 2 (by omega) g (by
  intro i hi
  have h : i = 0 ∨ i = 1 := by omega
  rcases h with rfl | rfl <;> rfl) fun v σ B st g => ?_
 rw [rNil_p, rFld_p, rNil_m meth_kind, rInv_i meth_kind]
 refine step_kind (n := n + 0) (its := [.int, .text]) hm g rfl fun v σ B st g => ?_
 rw [rNil_p, rFld_p]
 rw [rB1]
 refine step_whole (n := n + 0) (its := [.text]) hm 1 (by omega) g (by
  intro i hi
  have h : i = 0 := by omega
  rcases h with rfl <;> rfl) fun v σ B st g => ?_
 rw [rNil_p, rFld_p, rNil_m meth_text, rInv_i meth_text]
 refine step_text (n := n + 0) (its := []) hm g rfl fun v σ B st g => ?_
 exact g.fin _

theorem pen_said' (hm : 1024 < most) : PenOk most c_save_said itsSaid 5 := by
 intro n σ w B st b o ds K g
 rw [X_call (by rfl), f_save_said]
 unfold r_save_said
 rw [rNil_p, rFld_p]
 rw [rB1]
 refine step_whole (n := n + 0) (its := [.text]) hm 1 (by omega) g (by
  intro i hi
  have h : i = 0 := by omega
  rcases h with rfl <;> rfl) fun v σ B st g => ?_
 rw [rNil_p, rFld_p, rNil_m meth_text, rInv_i meth_text]
 refine step_text (n := n + 0) (its := []) hm g rfl fun v σ B st g => ?_
 exact g.fin _

theorem pen_told' (hm : 1024 < most) : PenOk most c_save_told itsTold 5 := by
 intro n σ w B st b o ds K g
 rw [X_call (by rfl), f_save_told]
 unfold r_save_told
 rw [rNil_p, rFld_p]
 rw [rB1]
 refine step_whole (n := n + 0) (its := [.nums]) hm 1 (by omega) g (by
  intro i hi
  have h : i = 0 := by omega
  rcases h with rfl <;> rfl) fun v σ B st g => ?_
 rw [rNil_p, rFld_p, rNil_m meth_nums, rInv_i meth_nums]
 refine step_nums (n := n + 0) (its := []) hm g rfl fun v σ B st g => ?_
 exact g.fin _

theorem pen_done' (hm : 1024 < most) : PenOk most c_save_done itsDone 5 := by
 intro n σ w B st b o ds K g
 rw [X_call (by rfl), f_save_done]
 unfold r_save_done
 rw [rNil_p, rFld_p, rNil_p, rFld_p]
 rw [rB2, bcase_t, rB2]
 refine step_whole (n := n + 0) (its := [.nums]) hm 2 (by omega) g (by
  intro i hi
  have h : i = 0 ∨ i = 1 := by omega
  rcases h with rfl | rfl <;> rfl) fun v σ B st g => ?_
 rw [rNil_p, rFld_p, rNil_m meth_nums, rInv_i meth_nums]
 refine step_nums (n := n + 0) (its := []) hm g rfl fun v σ B st g => ?_
 exact g.fin _

theorem each_loop {c one : FuncId} {sz d : Nat} {its : List It} {G} (T : EachT c sz G) (hsz : its.length = sz) (hm : 1048576 < most) (hone : PenOk most one its (d + 5)) {n : Nat} {w b o : Nat} {es : List (List D)} (hle : es.length ≤ 1048576) :
 ∀ (r i m : Nat) (σ : St) (B : Nat → Prop) (st : PenS) (K : VK), i + r = es.length → r < m → Pen σ w B st → CellAt σ B (.list its) b o (.l es) → st.1.length + (es.drop i).foldl (fun c ds => c + costs its ds) 0 ≤ LIM →
  (∀ v σ' B', Pen σ' w B' ((es.drop i).foldl (fun st ds => if st.2 = 0 then encs its ds st else st) st) → Fr' B σ σ' B' → K v σ' = true) →
  T.L (X most (n + d + 5)) m (hand w) (pt b o) (.func (.func one) #[] #[]) (.int .i64 (.ofNat es.length)) (.int .i64 (.ofNat i)) σ K = true := by
 subst hsz
 intro r
 induction r with
 | zero =>
  intro i m σ B st K hi hmr hp hc hl hK
  obtain ⟨m, rfl⟩ := Nat.exists_eq_succ_of_ne_zero (show m ≠ 0 by omega)
  rw [T.LE]
  rw [rBin_lssN, show decide (i < es.length) = false from by simp; omega]
  simp only [shut_eq, rGuard_tf, rPick_f, rIf_f]
  refine hK _ σ B ?_ (.refl B σ)
  rw [List.drop_of_length_le (by omega)]
  exact hp
 | succ r ih =>
  intro i m σ B st K hi hmr hp hc hl hK
  obtain ⟨m, rfl⟩ := Nat.exists_eq_succ_of_ne_zero (show m ≠ 0 by omega)
  have hlt : i < es.length := by omega
  have hed : es.drop i = es[i] :: es.drop (i + 1) := List.drop_eq_getElem_cons hlt
  rw [T.LE]
  rw [rBin_lssN, show decide (i < es.length) = true from by simpa using hlt]
  simp only [shut_eq, rGuard_tt, rInv_i meth_wrong]
  rw [pen_wrong (n := n + d + 4) hp, rBin_eqlN, rPick_t, rIf_b]
  by_cases he : st.2 = 0
  · rw [if_pos (by simpa using he), rNil_p]
    obtain ⟨v, hv, hld⟩ := hc.ld
    obtain ⟨⟨bb, cc, rfl⟩, hN⟩ := hv.len
    rw [hld, rLenS_s, rBin_eqlN, rIf_b, if_neg (by simp; omega), T.JE _ (by rw [X_most]; omega)]
    obtain ⟨b2, o2, sp, c2, e2, hsp, hst⟩ := hv.elem (k := i) (ds := es[i]) (List.getElem?_eq_getElem hlt)
    rw [e2] at hld
    rw [rNil_p, hld, rIdx_sp its.length b2 o2 i _ c2 sp hsp hlt, rCallV_0]
    rw [hed, List.foldl_cons, foldl_cost] at hl
    refine hone n ⟨hp, hst, by rw [List.drop_zero]; omega, fun v2 σ' B' hp' f => ?_⟩
    rw [List.drop_zero] at hp'
    rw [rBin_add _ _ _ _ (by omega)]
    have hlen := encs_len its es[i] st
    refine ih (i + 1) m σ' B' (encs its es[i] st) K (by omega) (by omega) hp' (hc.fr f) (by omega) fun v3 σ3 B3 hp3 f3 => hK v3 σ3 B3 ?_ (f.trans f3)
    rw [hed, List.foldl_cons, if_pos he]
    exact hp3
  · rw [if_neg (by simpa using he)]
    refine hK _ σ B ?_ (.refl B σ)
    have key : ∀ l : List (List D), l.foldl (fun st ds => if st.2 = 0 then encs its ds st else st) st = st := by
     intro l
     induction l with
     | nil => rfl
     | cons d l ih => rw [List.foldl_cons, if_neg he, ih]
    rw [key]
    exact hp
theorem each_all {c one : FuncId} {sz d : Nat} {its : List It} {G} (T : EachT c sz G) (hsz : its.length = sz) (hm : 1048576 < most) (hone : PenOk most one its (d + 5)) : EachOk most c one its (d + 6) := by
 intro n σ w B st b o es K hp hc hl hK
 show (X most (n + d + 5 + 1)).C _ _ _ _ = true
 rw [X_call T.ov, T.R]
 obtain ⟨v, hv, hld⟩ := hc.ld
 obtain ⟨⟨bb, cc, rfl⟩, hN⟩ := hv.len
 rw [rNil_p, hld, rLenS_s, rNil_m meth_many, rInv_i meth_many]
 have h8 : ∀ l : List (List D), 8 ≤ l.foldl (fun c ds => c + costs its ds) 8 := fun l => by rw [foldl_cost]; omega
 have hl' : st.1.length + es.foldl (fun c ds => c + costs its ds) 8 ≤ LIM := by simpa [cost] using hl
 refine pen_many (n := n + d + 1) hp (by omega) hN (by have := h8 es; omega) fun σ' B' hp' f => ?_
 obtain ⟨v', hv', hld'⟩ := (hc.fr f).ld
 have hvv : v' = .slice bb es.length cc := by
  have h1 := hld (fun v _ => true)
  obtain ⟨vs, e, ck, u, g1, g2, g3, g4⟩ := hc.row
  have e1 : σ'.obj b = some (.cells vs e ck) := by rw [f.same b hc.lt hc.nC]; exact g1
  have a1 := hld' (fun x _ => true)
  have q : ∀ K : VK, K v' σ' = K u σ' := fun K => (hld' K).symm.trans (rLd_h e1 g3 K)
  have q2 : ∀ K : VK, K (.slice bb es.length cc) σ = K u σ := fun K => (hld K).symm.trans (rLd_h g1 g3 K)
  have r1 : u = v' := by
   by_cases h : u = v'
   · exact h
   · have := q (fun x _ => @decide (x = v') (Classical.propDecidable _)); simp [h] at this
  have r2 : u = .slice bb es.length cc := by
   by_cases h : u = .slice bb es.length cc
   · exact h
   · have := q2 (fun x _ => @decide (x = .slice bb es.length cc) (Classical.propDecidable _)); simp [h] at this
  rw [← r1, r2]
 subst hvv
 rw [hld', rSame_v (sameV_list hv'), X_most]
 unfold manyN
 by_cases hb : 1048576 < es.length
 · rw [if_pos hb]
   obtain ⟨m, hme⟩ := Nat.exists_eq_succ_of_ne_zero (show most ≠ 0 by omega)
   have hgo : ∀ x : EV, T.L x (m + 1) (hand w) (pt b o) (.func (.func one) #[] #[]) zI zI σ' K = K (.tuple ⟨[]⟩) σ' := fun x => by
    rw [T.LE]
    rw [rBin_lssN, show decide (0 < 0) = false from rfl]
    simp only [shut_eq, rGuard_tf, rPick_f, rIf_f]
   have hgo2 : T.L (X most (n + d + 5)) most (hand w) (pt b o) (.func (.func one) #[] #[]) zI zI σ' K = K (.tuple ⟨[]⟩) σ' := by
    have := hgo (X most (n + d + 5))
    rw [show m + 1 = most from hme.symm] at this
    exact this
   refine Eq.trans hgo2 (hK _ σ' B' ?_ f)
   rw [enc, if_pos hb]
   unfold encMany at hp'
   rw [if_pos hb] at hp'
   exact hp'
 · rw [if_neg hb]
   unfold encMany at hp'
   rw [if_neg hb, wr_zero] at hp'
   refine each_loop T hsz hm hone (n := n) (by omega) es.length 0 most σ' B' _ K (by omega) (show es.length < most by omega) hp' (hc.fr f) ?_ fun v3 σ3 B3 hp3 f3 => hK v3 σ3 B3 ?_ (f.trans f3)
   · rw [List.drop_zero]
     rw [foldl_cost] at hl'
     show (st.1 ++ beb 8 es.length).length + _ ≤ _
     rw [List.length_append, beb_length]
     omega
   · rw [enc, if_neg hb]
     rw [List.drop_zero] at hp3
     exact hp3

theorem each_string (hm : 1048576 < most) (hone : PenOk most c_save_text itsText 5) : EachOk most c_save_each_string c_save_text itsText 6 := each_all (d := 0) eT_string rfl hm hone
theorem each_list_uint64 (hm : 1048576 < most) (hone : PenOk most c_save_nums itsNums 5) : EachOk most c_save_each_list_uint64 c_save_nums itsNums 6 := each_all (d := 0) eT_list_uint64 rfl hm hone
theorem each_api_Pair (hm : 1048576 < most) (hone : PenOk most c_save_pair itsPair 5) : EachOk most c_save_each_api_Pair c_save_pair itsPair 6 := each_all (d := 0) eT_api_Pair rfl hm hone
theorem each_api_Msg (hm : 1048576 < most) (hone : PenOk most c_save_message itsMsg 5) : EachOk most c_save_each_api_Msg c_save_message itsMsg 6 := each_all (d := 0) eT_api_Msg rfl hm hone
theorem each_tally_Vote (hm : 1048576 < most) (hone : PenOk most c_save_vote itsVote 5) : EachOk most c_save_each_tally_Vote c_save_vote itsVote 6 := each_all (d := 0) eT_tally_Vote rfl hm hone
theorem each_board_Told (hm : 1048576 < most) (hone : PenOk most c_save_said itsSaid 5) : EachOk most c_save_each_board_Told c_save_said itsSaid 6 := each_all (d := 0) eT_board_Told rfl hm hone
theorem each_avss_Told (hm : 1048576 < most) (hone : PenOk most c_save_told itsTold 5) : EachOk most c_save_each_avss_Told c_save_told itsTold 6 := each_all (d := 0) eT_avss_Told rfl hm hone
theorem each_node_Done (hm : 1048576 < most) (hone : PenOk most c_save_done itsDone 5) : EachOk most c_save_each_node_Done c_save_done itsDone 6 := each_all (d := 0) eT_node_Done rfl hm hone
theorem pen_dealing' (hM : 1048576 < most) : PenOk most c_save_dealing itsDealing 7 := by
 have hm : 1024 < most := by omega
 intro n σ w B st b o ds K g
 rw [X_call (by rfl), f_save_dealing]
 unfold r_save_dealing
 rw [rNil_p, rFld_p, rNil_p, rFld_p]
 rw [rB2, bcase_t, rB2]
 refine step_whole (n := n + 2) (its := [.list itsNums, .nums, .list itsTold, .list itsTold, .nums, .is]) hm 2 (by omega) g (by
  intro i hi
  have h : i = 0 ∨ i = 1 := by omega
  rcases h with rfl | rfl <;> rfl) fun v σ B st g => ?_
 rw [rNil_p, rFld_p]
 refine step_list (n := n + 0) (its := [.nums, .list itsTold, .list itsTold, .nums, .is]) (each_list_uint64 hM (pen_nums' hm)) g rfl fun v σ B st g => ?_
 rw [rNil_p, rFld_p, rNil_m meth_nums, rInv_i meth_nums]
 refine step_nums (n := n + 2) (its := [.list itsTold, .list itsTold, .nums, .is]) hm g rfl fun v σ B st g => ?_
 rw [rNil_p, rFld_p]
 refine step_list (n := n + 0) (its := [.list itsTold, .nums, .is]) (each_avss_Told hM (pen_told' hm)) g rfl fun v σ B st g => ?_
 rw [rNil_p, rFld_p]
 refine step_list (n := n + 0) (its := [.nums, .is]) (each_avss_Told hM (pen_told' hm)) g rfl fun v σ B st g => ?_
 rw [rNil_p, rFld_p, rNil_m meth_nums, rInv_i meth_nums]
 refine step_nums (n := n + 2) (its := [.is]) hm g rfl fun v σ B st g => ?_
 rw [rNil_p, rFld_p, rNil_m meth_is, rInv_i meth_is]
 refine step_is (n := n + 2) (its := []) hm g rfl fun v σ B st g => ?_
 exact g.fin _

theorem pen_voting' (hM : 1048576 < most) : PenOk most c_save_voting itsVoting 7 := by
 have hm : 1024 < most := by omega
 intro n σ w B st b o ds K g
 rw [X_call (by rfl), f_save_voting]
 unfold r_save_voting
 rw [rNil_p, rFld_p, rNil_p, rFld_p, rNil_p, rFld_p, rNil_p, rFld_p, rNil_p, rFld_p, rNil_p, rFld_p, rNil_p, rFld_p]
 rw [rB7, bcase_t, rB7]
 refine step_whole (n := n + 2) (its := [.text, .text, .int, .int, .is, .is, .text, .list itsVote]) hm 7 (by omega) g (by
  intro i hi
  have h : i = 0 ∨ i = 1 ∨ i = 2 ∨ i = 3 ∨ i = 4 ∨ i = 5 ∨ i = 6 := by omega
  rcases h with rfl | rfl | rfl | rfl | rfl | rfl | rfl <;> rfl) fun v σ B st g => ?_
 rw [rNil_p, rFld_p, rNil_m meth_text, rInv_i meth_text]
 refine step_text (n := n + 2) (its := [.text, .int, .int, .is, .is, .text, .list itsVote]) hm g rfl fun v σ B st g => ?_
 rw [rNil_p, rFld_p, rNil_m meth_text, rInv_i meth_text]
 refine step_text (n := n + 2) (its := [.int, .int, .is, .is, .text, .list itsVote]) hm g rfl fun v σ B st g => ?_
 rw [rNil_p, rFld_p, rNil_p, rFld_p]
 rw [rB2, bcase_t, rB2]
 refine step_whole (n := n + 2) (its := [.is, .is, .text, .list itsVote]) hm 2 (by omega) g (by
  intro i hi
  have h : i = 0 ∨ i = 1 := by omega
  rcases h with rfl | rfl <;> rfl) fun v σ B st g => ?_
 rw [rNil_p, rFld_p, rNil_m meth_is, rInv_i meth_is]
 refine step_is (n := n + 2) (its := [.is, .text, .list itsVote]) hm g rfl fun v σ B st g => ?_
 rw [rNil_p, rFld_p, rNil_m meth_is, rInv_i meth_is]
 refine step_is (n := n + 2) (its := [.text, .list itsVote]) hm g rfl fun v σ B st g => ?_
 rw [rNil_p, rFld_p, rNil_m meth_text, rInv_i meth_text]
 refine step_text (n := n + 2) (its := [.list itsVote]) hm g rfl fun v σ B st g => ?_
 rw [rNil_p, rFld_p]
 refine step_list (n := n + 0) (its := []) (each_tally_Vote hM (pen_vote' hm)) g rfl fun v σ B st g => ?_
 exact g.fin _

theorem pen_rows' (hM : 1048576 < most) : PenOk most c_save_rows itsRows 8 := by
 have hm : 1024 < most := by omega
 intro n σ w B st b o ds K g
 rw [X_call (by rfl), f_save_rows]
 unfold r_save_rows
 rw [rNil_p, rFld_p]
 rw [rB1]
 refine step_whole (n := n + 3) (its := [.text, .is, .int, .int, .int, .int, .int, .int, .int, .text, .text, .int, .int, .is, .is, .text, .list itsVote, .list itsSaid, .list itsMsg]) hm 1 (by omega) g (by
  intro i hi
  have h : i = 0 := by omega
  rcases h with rfl <;> rfl) fun v σ B st g => ?_
 rw [rNil_p, rFld_p, rNil_m meth_text, rInv_i meth_text]
 refine step_text (n := n + 3) (its := [.is, .int, .int, .int, .int, .int, .int, .int, .text, .text, .int, .int, .is, .is, .text, .list itsVote, .list itsSaid, .list itsMsg]) hm g rfl fun v σ B st g => ?_
 rw [rNil_p, rFld_p, rNil_m meth_is, rInv_i meth_is]
 refine step_is (n := n + 3) (its := [.int, .int, .int, .int, .int, .int, .int, .text, .text, .int, .int, .is, .is, .text, .list itsVote, .list itsSaid, .list itsMsg]) hm g rfl fun v σ B st g => ?_
 rw [rNil_p, rFld_p]
 refine step_sub (n := n + 0) (its' := itsVoting) (its := [.list itsSaid, .list itsMsg]) (pen_voting' hM) g rfl (by decide) fun v σ B st g => ?_
 rw [rNil_p, rFld_p]
 refine step_list (n := n + 1) (its := [.list itsMsg]) (each_board_Told hM (pen_said' hm)) g rfl fun v σ B st g => ?_
 rw [rNil_p, rFld_p]
 refine step_list (n := n + 1) (its := []) (each_api_Msg hM (pen_message' hm)) g rfl fun v σ B st g => ?_
 exact g.fin _

theorem each_avss_State (hm : 1048576 < most) (hone : PenOk most c_save_dealing itsDealing 7) : EachOk most c_save_each_avss_State c_save_dealing itsDealing 8 := each_all (d := 2) eT_avss_State rfl hm hone
theorem pen_all' (hM : 1048576 < most) : PenOk most c_save_all itsAll 9 := by
 have hm : 1024 < most := by omega
 intro n σ w B st b o ds K g
 rw [X_call (by rfl), f_save_all]
 unfold r_save_all
 rw [rNil_p, rFld_p]
 rw [rB1]
 refine step_whole (n := n + 4) (its := [.list itsText, .int, .text, .is, .int, .int, .int, .int, .int, .int, .int, .text, .text, .int, .int, .is, .is, .text, .list itsVote, .list itsSaid, .list itsMsg, .list itsText, .list itsPair, .list itsPair, .is, .list itsDealing, .list itsDone, .list itsMsg, .list itsDealing]) hm 1 (by omega) g (by
  intro i hi
  have h : i = 0 := by omega
  rcases h with rfl <;> rfl) fun v σ B st g => ?_
 rw [rNil_p, rFld_p]
 refine step_list (n := n + 2) (its := [.int, .text, .is, .int, .int, .int, .int, .int, .int, .int, .text, .text, .int, .int, .is, .is, .text, .list itsVote, .list itsSaid, .list itsMsg, .list itsText, .list itsPair, .list itsPair, .is, .list itsDealing, .list itsDone, .list itsMsg, .list itsDealing]) (each_string hM (pen_text' hm)) g rfl fun v σ B st g => ?_
 rw [rNil_p, rFld_p]
 refine step_sub (n := n + 0) (its' := itsRows) (its := [.list itsText, .list itsPair, .list itsPair, .is, .list itsDealing, .list itsDone, .list itsMsg, .list itsDealing]) (pen_rows' hM) g rfl (by decide) fun v σ B st g => ?_
 rw [rNil_p, rFld_p]
 refine step_list (n := n + 2) (its := [.list itsPair, .list itsPair, .is, .list itsDealing, .list itsDone, .list itsMsg, .list itsDealing]) (each_string hM (pen_text' hm)) g rfl fun v σ B st g => ?_
 rw [rNil_p, rFld_p]
 refine step_list (n := n + 2) (its := [.list itsPair, .is, .list itsDealing, .list itsDone, .list itsMsg, .list itsDealing]) (each_api_Pair hM (pen_pair' hm)) g rfl fun v σ B st g => ?_
 rw [rNil_p, rFld_p]
 refine step_list (n := n + 2) (its := [.is, .list itsDealing, .list itsDone, .list itsMsg, .list itsDealing]) (each_api_Pair hM (pen_pair' hm)) g rfl fun v σ B st g => ?_
 rw [rNil_p, rFld_p, rNil_m meth_is, rInv_i meth_is]
 refine step_is (n := n + 4) (its := [.list itsDealing, .list itsDone, .list itsMsg, .list itsDealing]) hm g rfl fun v σ B st g => ?_
 rw [rNil_p, rFld_p]
 refine step_list (n := n + 0) (its := [.list itsDone, .list itsMsg, .list itsDealing]) (each_avss_State hM (pen_dealing' hM)) g rfl fun v σ B st g => ?_
 rw [rNil_p, rFld_p]
 refine step_list (n := n + 2) (its := [.list itsMsg, .list itsDealing]) (each_node_Done hM (pen_done' hm)) g rfl fun v σ B st g => ?_
 rw [rNil_p, rFld_p]
 refine step_list (n := n + 2) (its := [.list itsDealing]) (each_api_Msg hM (pen_message' hm)) g rfl fun v σ B st g => ?_
 rw [rNil_p, rFld_p]
 refine step_list (n := n + 0) (its := []) (each_avss_State hM (pen_dealing' hM)) g rfl fun v σ B st g => ?_
 exact g.fin _

end Go.Am

namespace Go.Am
open Go.RowKit Go.MapKept Go.Proofs Go.Proofs.Rdr
variable {most : Nat}
def encode (ds : List D) : List UInt8 × Nat := let st := encs itsAll ds ([], 0); if st.2 = 0 then (st.1, 0) else ([], st.2)
theorem rBin_neqN {P : Program} (t : TypeId) (k : IntKind) (a b : Nat) (K : Value → Bool) : rBin P .neq t (.int k (.ofNat a)) (.int k (.ofNat b)) K = K (.bool (!decide (a = b))) := by
 rw [rBin_i _ _ _ _ _ _ (by simp) (by simp)]; simp only [intBinK, boolK_eq, eqI_eq]
 congr 3
 by_cases h : a = b
 · subst h; simp
 · rw [decide_eq_false h]
   have : ¬ (Int.ofNat a = Int.ofNat b) := fun e => h (Int.ofNat.inj e)
   simpa using this
theorem Encode_s (hM : 1048576 < most) {n : Nat} {σ : St} {C : Nat → Prop} {cs : List Value} {ds : List D} (h : RdA σ C itsAll cs ds) (hl : costs itsAll ds ≤ LIM) {K : VK}
 (hK : ∀ σ', Ext' σ σ' → K (.tuple ⟨[.string ⟨⟨(encode ds).1⟩⟩, .int .i64 (.ofNat (encode ds).2)]⟩) σ' = true) : (X most (n + 10)).C c_save_Encode [.agg ⟨cs⟩] σ K = true := by
 rw [X_call (by rfl), f_save_Encode]
 unfold r_save_Encode
 rw [boxK_agg (List.all_eq_true.2 h.one)]
 have hbd : ∀ K : Value → Bool, rBuild [(.pointer none), zL, zI] [] K = K (.agg ⟨[.pointer none, .slice none 0 0, .int .i64 (.ofNat 0)]⟩) := fun K => rfl
 rw [hbd, boxK_agg rfl]
 have hs := h.stc 34
 let σ1 := σ.new (.cells cs 34 .exact)
 let σ2 := σ1.new (.cells [.pointer none, .slice none 0 0, .int .i64 (.ofNat 0)] 96 .exact)
 have hx2 : Ext' σ σ2 := (Ext'.new σ _).trans (Ext'.new σ1 _)
 have hp : Pen σ2 σ1.n (fun i => i = σ1.n) ([], 0) := ⟨rfl, fun i hi => by subst hi; exact Nat.lt_succ_self _, _, _, obj_new_same, .inl rfl, .inl ⟨rfl, rfl⟩⟩
 have hs2 : Stc σ2 (fun i => i = σ1.n) itsAll σ.n 0 ds := hs.fr ⟨Nat.le_succ _, fun i hi _ => obj_new_old (Nat.ne_of_lt hi), fun i hi => .inr (by subst hi; exact Nat.le_refl _)⟩
 have hlast : ∀ (v : Value) (σ' : St) (B' : Nat → Prop), Pen σ' σ1.n B' (encs itsAll ds ([], 0)) → Fr' (fun i => i = σ1.n) σ2 σ' B' →
  (rNil PP (pt σ1.n 0) fun v4 => rFld 2 v4 fun v5 => rLd v5 σ' fun v6 σ => rBin PP .neq 37 v6 zI fun v7 =>
   rIf v7 (rNil PP (pt σ1.n 0) fun v8 => rFld 2 v8 fun v9 => rLd v9 σ fun v10 σ => K (.tuple ⟨[zS, v10]⟩) σ)
    (rNil PP (pt σ1.n 0) fun v11 => rFld 0 v11 fun v12 => (X most (n + 9)).C c_strings_Builder_String [v12] σ fun v13 σ => K (.tuple ⟨[v13, zI]⟩) σ)) = true := by
  intro _ σ' B' hp' f
  have hx : Ext' σ σ' := f.ext hx2 fun i hi => by subst hi; exact Nat.le_succ _
  rw [rNil_p, rFld_p, Nat.zero_add, pen_err hp', rBin_neqN, rIf_b]
  have hK' := hK
  unfold encode at hK'
  simp only at hK'
  by_cases he : (encs itsAll ds ([], 0)).2 = 0
  · rw [if_neg (by simp [he]), rNil_p, rFld_p]
    rw [if_pos he] at hK'
    have hlen := encs_len itsAll ds ([], 0)
    refine String_s (n := n + 8) hp' (by simp at hlen; unfold LIM at hl; omega) fun σ3 f3 => hK' σ3 (f3.ext hx fun i hi => ?_)
    rcases f.sub i hi with h1 | h1
    · subst h1; exact Nat.le_succ _
    · exact Nat.le_trans hx2.n h1
  · rw [if_pos (by simp [he]), rNil_p, rFld_p, Nat.zero_add, pen_err hp']
    rw [if_neg he] at hK'
    exact hK' σ' hx
 exact pen_all' hM n ⟨hp, hs2, by rw [List.drop_zero]; simpa using hl, fun v σ' B' hp' f => hlast v σ' B' (by simpa using hp') f⟩
end Go.Am

namespace Go.Am
open Go.RowKit Go.MapKept Go.Proofs Go.Proofs.Rdr
def valB : List UInt8 → Nat
 | [] => 0
 | x :: l => x.toNat * 256 ^ l.length + valB l
theorem valB_beb (n : Nat) : ∀ k, valB (beb k n) = n % 256 ^ k := by
 intro k
 induction k with
 | zero => simp [beb, valB, Nat.mod_one]
 | succ k ih =>
  simp only [beb, valB, beb_length, ih]
  rw [Nat.pow_succ, Nat.mod_mul, UInt8.toNat_ofNat']
  rw [Nat.add_comm, Nat.mul_comm]
inductive WF : It → D → Prop where
 | num {z : Nat} (h : z < 18446744073709551616) : WF .num (.n z)
 | kind {z : Nat} (h : z < 256) : WF .kind (.n z)
 | int {z : Int} (h1 : -9223372036854775808 ≤ z) (h2 : z < 9223372036854775808) : WF .int (.n z)
 | is {b : Bool} : WF .is (.b b)
 | text {l : List UInt8} : WF .text (.s l)
 | nums {ns : List Nat} (h : ∀ z ∈ ns, z < 18446744073709551616) : WF .nums (.l (ns.map fun z : Nat => [.n (z : Int)]))
 | list {its : List It} {es : List (List D)} (hl : ∀ ds ∈ es, ds.length = its.length) (hr : ∀ (k : Nat) (ds : List D) (j : Nat) (it : It) (d : D), es[k]? = some ds → its[j]? = some it → ds[j]? = some d → WF it d) : WF (.list its) (.l es)
theorem wrN_app (l b : List UInt8) (e : Nat) : wrN l (b, e) = (b ++ (wrN l ([], e)).1, (wrN l ([], e)).2) := by simp [wrN]
def App (f : PenS → PenS) : Prop := ∀ b e, f (b, e) = (b ++ (f ([], e)).1, (f ([], e)).2)
theorem App.comp {f g : PenS → PenS} (hf : App f) (hg : App g) : App fun st => g (f st) := by
 intro b e
 show g (f (b, e)) = _
 rw [hf b e, hg (b ++ _) _]
 have := hg (f ([], e)).1 (f ([], e)).2
 show _ = (b ++ (g (f ([], e))).1, (g (f ([], e))).2)
 rw [show g (f ([], e)) = g ((f ([], e)).1, (f ([], e)).2) from rfl, this]
 simp
theorem App.fold {f : PenS → List D → PenS} (h : ∀ ds, App fun st => f st ds) : ∀ es : List (List D), App fun st => es.foldl f st := by
 intro es
 induction es with
 | nil => intro b e; simp
 | cons ds es ih => exact App.comp (h ds) ih
mutual
theorem enc_app : ∀ (it : It) (d : D), App (enc it d)
 | .num, d => by intro b e; cases d <;> simp [enc, wrN]
 | .kind, d => by intro b e; cases d <;> simp [enc, wrN]
 | .int, d => by intro b e; cases d <;> simp [enc, wrN]
 | .is, d => by intro b e; cases d <;> simp [enc, wrN]
 | .text, d => by intro b e; cases d <;> simp [enc, wr]
 | .nums, d => by intro b e; cases d <;> simp [enc, wr]
 | .list its, .n _ => by intro b e; simp [enc]
 | .list its, .b _ => by intro b e; simp [enc]
 | .list its, .s _ => by intro b e; simp [enc]
 | .list its, .l es => by
  by_cases hb : 1048576 < es.length
  · intro b e; simp [enc, hb, wr]
  · have h1 : App fun st => es.foldl (fun st ds => if st.2 = 0 then encs its ds st else st) st := App.fold (fun ds => by
     intro b e
     show (if e = 0 then encs its ds (b, e) else (b, e)) = (b ++ (if e = 0 then encs its ds ([], e) else ([], e)).1, (if e = 0 then encs its ds ([], e) else ([], e)).2)
     by_cases he : e = 0
     · simp only [if_pos he]; exact encs_app its ds b e
     · simp only [if_neg he, List.append_nil]) es
    have h2 : App (wrN (beb 8 es.length)) := fun b e => wrN_app _ b e
    have h3 := App.comp h2 h1
    intro b e
    simp only [enc, if_neg hb]
    exact h3 b e
theorem encs_app : ∀ (its : List It) (ds : List D), App (encs its ds)
 | [], _ => by intro b e; simp [encs]
 | _ :: _, [] => by intro b e; simp [encs]
 | it :: its, d :: ds => by
  have := App.comp (enc_app it d) (encs_app its ds)
  intro b e
  simp only [encs]
  exact this b e
end
end Go.Am

namespace Go.Am
open Go.RowKit Go.MapKept Go.Proofs Go.Proofs.Rdr
def Keeps (f : PenS → PenS) : Prop := ∀ st, (f st).2 = 0 → st.2 = 0
theorem wr_keeps (x : List UInt8 × Nat) : Keeps (wr x) := by
 intro st h
 unfold wr at h
 by_cases he : st.2 = 0
 · exact he
 · simp only [if_neg he] at h; exact h
theorem fold_keeps {f : PenS → List D → PenS} (h : ∀ ds, Keeps fun st => f st ds) : ∀ es : List (List D), Keeps fun st => es.foldl f st := by
 intro es
 induction es with
 | nil => intro st h; exact h
 | cons ds es ih => intro st hs; exact h ds st (ih _ hs)
mutual
theorem enc_keeps : ∀ (it : It) (d : D), Keeps (enc it d)
 | .num, d => by intro st h; cases d <;> simpa [enc, wrN] using h
 | .kind, d => by intro st h; cases d <;> simpa [enc, wrN] using h
 | .int, d => by intro st h; cases d <;> simpa [enc, wrN] using h
 | .is, d => by intro st h; cases d <;> simpa [enc, wrN] using h
 | .text, .s t => by intro st h; simp only [enc] at h; exact wr_keeps _ st h
 | .text, .n _ => by intro st h; simpa [enc] using h
 | .text, .b _ => by intro st h; simpa [enc] using h
 | .text, .l _ => by intro st h; simpa [enc] using h
 | .nums, .l es => by intro st h; simp only [enc] at h; exact wr_keeps _ st h
 | .nums, .n _ => by intro st h; simpa [enc] using h
 | .nums, .b _ => by intro st h; simpa [enc] using h
 | .nums, .s _ => by intro st h; simpa [enc] using h
 | .list its, .n _ => by intro st h; simpa [enc] using h
 | .list its, .b _ => by intro st h; simpa [enc] using h
 | .list its, .s _ => by intro st h; simpa [enc] using h
 | .list its, .l es => by
  intro st h
  simp only [enc] at h
  by_cases hb : 1048576 < es.length
  · rw [if_pos hb] at h; exact wr_keeps _ st h
  · rw [if_neg hb] at h
    have := fold_keeps (f := fun st ds => if st.2 = 0 then encs its ds st else st) (fun ds st h => by
     by_cases he : st.2 = 0
     · exact he
     · simpa [if_neg he] using h) es (wrN (beb 8 es.length) st) h
    exact this
theorem encs_keeps : ∀ (its : List It) (ds : List D), Keeps (encs its ds)
 | [], _ => by intro st h; simpa [encs] using h
 | _ :: _, [] => by intro st h; simpa [encs] using h
 | it :: its, d :: ds => by
  intro st h
  simp only [encs] at h
  exact enc_keeps it d st (encs_keeps its ds _ h)
end
theorem numOf_map (ns : List Nat) : (ns.map fun z : Nat => [D.n (z : Int)]).map numOf = ns := by
 induction ns with
 | nil => rfl
 | cons n ns ih => simp only [List.map_cons, ih]; rfl
def WFs (its : List It) (ds : List D) : Prop := ds.length = its.length ∧ ∀ (j : Nat) (it : It) (d : D), its[j]? = some it → ds[j]? = some d → WF it d
theorem two {f g : PenS → PenS} (hg : App g) (kg : Keeps g) (h : (g (f ([], 0))).2 = 0) : (f ([], 0)).2 = 0 ∧ (g ([], 0)).2 = 0 ∧ (g (f ([], 0))).1 = (f ([], 0)).1 ++ (g ([], 0)).1 := by
 have h0 := kg _ h
 have := hg (f ([], 0)).1 (f ([], 0)).2
 rw [show ((f ([], 0)).1, (f ([], 0)).2) = f ([], 0) from rfl, h0] at this
 rw [this] at h ⊢
 exact ⟨h0, h, rfl⟩
end Go.Am

namespace Go.Am
open Go.RowKit Go.MapKept Go.Proofs Go.Proofs.Rdr
end Go.Am

namespace Go.Am
open Go.RowKit Go.MapKept Go.Proofs Go.Proofs.Rdr
theorem nums_form : ∀ (es : List (List D)), (∀ ds ∈ es, ds.length = 1) → (∀ ds ∈ es, ∀ d, ds[0]? = some d → WF .num d) → ∃ ns : List Nat, es = ns.map (fun z : Nat => [D.n (z : Int)]) ∧ ∀ z ∈ ns, z < 18446744073709551616 := by
 intro es
 induction es with
 | nil => intro _ _; exact ⟨[], rfl, fun _ h => by cases h⟩
 | cons ds es ih =>
  intro hl hw
  obtain ⟨ns, e, hn⟩ := ih (fun x hx => hl x (.tail _ hx)) fun x hx => hw x (.tail _ hx)
  match ds, hl _ (.head _), hw _ (.head _) with
  | [d], _, hd =>
   have := hd d rfl
   cases this with
   | @num z hz =>
    refine ⟨z :: ns, by rw [e]; rfl, fun y hy => ?_⟩
    rcases List.mem_cons.1 hy with h | h
    · rw [h]; exact hz
    · exact hn y h
theorem Rd.wf {σ : St} {C : Nat → Prop} {it : It} {v : Value} {d : D} (h : Rd σ C it v d) : WF it d := by
 induction h with
 | num h => exact .num h
 | kind h => exact .kind h
 | int h1 h2 => exact .int h1 h2
 | is => exact .is
 | text => exact .text
 | @nums v es _ ih =>
  cases ih with
  | list hl hr =>
   obtain ⟨ns, e, hn⟩ := nums_form es hl fun ds hd d h0 => by
    obtain ⟨k, hk⟩ := List.getElem?_of_mem hd
    exact hr k ds 0 .num d hk rfl h0
   rw [e]; exact .nums hn
 | empty => exact .list (fun _ h => by cases h) fun k ds j it d a => by simp at a
 | emptyR => exact .list (fun _ h => by cases h) fun k ds j it d a => by simp at a
 | @row its b o n c sp vs e ck es hsp hb hC ho hw hn hl hd hN _ ih =>
  refine .list hd fun k ds j it d a b c => ?_
  have hlt := (List.getElem?_eq_some_iff.1 b).1
  have hk := (List.getElem?_eq_some_iff.1 a).1
  have hle : k * its.length + its.length ≤ n * its.length := by
   have : (k + 1) * its.length ≤ n * its.length := Nat.mul_le_mul_right _ (by omega)
   rwa [Nat.add_mul, Nat.one_mul] at this
  exact ih k ds j it _ d a b (List.getElem?_eq_getElem (by omega)) c
theorem RdA.wfs {σ : St} {C : Nat → Prop} {its : List It} {cs : List Value} {ds : List D} (h : RdA σ C its cs ds) : WFs its ds := by
 refine ⟨h.dlen, fun j it d a b => ?_⟩
 have hlt := (List.getElem?_eq_some_iff.1 a).1
 exact (h.rd j it _ d a (List.getElem?_eq_getElem (by rw [h.len]; exact hlt)) b).wf
end Go.Am

namespace Go.Am
open Go.RowKit Go.MapKept Go.Proofs Go.Proofs.Rdr
abbrev RS := List UInt8 × Nat
def rdN (k : Nat) (st : RS) : Nat × RS := if st.2 ≠ 0 then (0, st) else if k ≤ st.1.length then (be (st.1.take k), st.1.drop k, 0) else (0, [], 8)
def rdC (most : Nat) (st : RS) : Nat × RS := if st.2 ≠ 0 then (0, st) else if 8 ≤ st.1.length then (if be (st.1.take 8) ≤ most then (be (st.1.take 8), st.1.drop 8, 0) else (0, [], 4)) else (0, [], 8)
def rdT (st : RS) : List UInt8 × RS := if st.2 ≠ 0 then ([], st) else if 2 ≤ st.1.length then
 (if be (st.1.take 2) ≤ 2048 then (if be (st.1.take 2) ≤ (st.1.drop 2).length then ((st.1.drop 2).take (be (st.1.take 2)), (st.1.drop 2).drop (be (st.1.take 2)), 0) else ([], [], 8)) else ([], [], 40))
 else ([], [], 8)
def rdW (st : RS) : List Nat × RS := if st.2 ≠ 0 then ([], st) else if 2 ≤ st.1.length then
 (if be (st.1.take 2) ≤ 1024 then (if be (st.1.take 2) * 8 ≤ (st.1.drop 2).length then (wds (st.1.drop 2) (be (st.1.take 2)), (st.1.drop 2).drop (8 * be (st.1.take 2)), 0) else ([], [], 8)) else ([], [], 40))
 else ([], [], 8)
def decL (f : RS → List D × RS) : Nat → RS → List (List D) × RS
 | 0, st => ([], st)
 | n + 1, st => if st.2 ≠ 0 then ([], st) else ((f st).1 :: (decL f n (f st).2).1, (decL f n (f st).2).2)
def i64 (n : Nat) : Int := ((n : Int) + 9223372036854775808) % 18446744073709551616 - 9223372036854775808
mutual
def dec : It → RS → D × RS
 | .num, st => (.n ((rdN 8 st).1 : Nat), (rdN 8 st).2)
 | .kind, st => (.n ((rdN 1 st).1 : Nat), (rdN 1 st).2)
 | .int, st => (.n (i64 (rdN 8 st).1), (rdN 8 st).2)
 | .is, st => (.b (decide ((rdC 1 st).1 = 1)), (rdC 1 st).2)
 | .text, st => (.s (rdT st).1, (rdT st).2)
 | .nums, st => (.l ((rdW st).1.map fun z : Nat => [.n (z : Int)]), (rdW st).2)
 | .list its, st => (.l (decL (decs its) (rdC 1048576 st).1 (rdC 1048576 st).2).1, (decL (decs its) (rdC 1048576 st).1 (rdC 1048576 st).2).2)
def decs : List It → RS → List D × RS
 | [], st => ([], st)
 | it :: its, st => ((dec it st).1 :: (decs its (dec it st).2).1, (decs its (dec it st).2).2)
end
theorem p8 : (256 : Nat) ^ 8 = 18446744073709551616 := by decide
theorem p2 : (256 : Nat) ^ 2 = 65536 := by decide
theorem be_valB (l : List UInt8) : be l = valB l := by
 have : ∀ (l : List UInt8) (a : Nat), l.foldl (fun a b => a * 256 + b.toNat) a = a * 256 ^ l.length + valB l := by
  intro l
  induction l with
  | nil => intro a; simp [valB]
  | cons b l ih => intro a; rw [List.foldl_cons, ih]; simp only [valB, List.length_cons, Nat.pow_succ, Nat.add_mul]; rw [Nat.mul_assoc, Nat.mul_comm 256 (256 ^ l.length)]; omega
 have := this l 0
 unfold be
 omega
theorem be_beb {k n : Nat} (h : n < 256 ^ k) : be (beb k n) = n := by rw [be_valB, valB_beb, Nat.mod_eq_of_lt h]
theorem valB_lt (l : List UInt8) : valB l < 256 ^ l.length := by rw [← be_valB]; exact be_lt l
theorem beb_valB : ∀ (k : Nat) (l : List UInt8) (a : Nat), l.length = k → beb k (a * 256 ^ k + valB l) = l := by
 intro k
 induction k with
 | zero => intro l a h; have : l = [] := List.eq_nil_of_length_eq_zero h; subst this; rfl
 | succ k ih =>
  intro l a h
  match l, h with
  | b :: l, h =>
   have hl : l.length = k := by simpa using h
   have hv := valB_lt l
   rw [hl] at hv
   simp only [beb, valB, hl]
   have e1 : a * 256 ^ (k + 1) + (b.toNat * 256 ^ k + valB l) = (a * 256 + b.toNat) * 256 ^ k + valB l := by rw [Nat.pow_succ, Nat.add_mul, Nat.mul_assoc, Nat.mul_comm 256 (256 ^ k)]; omega
   rw [e1, ih l _ hl]
   congr 1
   rw [Nat.mul_comm, Nat.mul_add_div (Nat.pow_pos (by omega)), Nat.div_eq_of_lt hv, Nat.add_zero]
   apply UInt8.toNat_inj.1
   rw [UInt8.toNat_ofNat']
   have := b.toNat_lt
   omega
theorem beb_be {k : Nat} {l : List UInt8} (h : l.length = k) : beb k (be l) = l := by
 have := beb_valB k l 0 h
 rwa [Nat.zero_mul, Nat.zero_add, ← be_valB] at this
/-! what was written is read -/
theorem take_app {a b : List UInt8} {k : Nat} (h : a.length = k) : (a ++ b).take k = a := by rw [← h]; exact List.take_left
theorem drop_app {a b : List UInt8} {k : Nat} (h : a.length = k) : (a ++ b).drop k = b := by rw [← h]; exact List.drop_left
theorem rdN_beb {k n : Nat} (h : n < 256 ^ k) (r : List UInt8) : rdN k (beb k n ++ r, 0) = (n, r, 0) := by
 unfold rdN
 simp only [ne_eq, not_true_eq_false, if_false, List.length_append, beb_length]
 rw [if_pos (by omega), take_app (beb_length k n), drop_app (beb_length k n), be_beb h]
theorem rdC_beb {m n : Nat} (h : n ≤ m) (hm : m < 18446744073709551616) (r : List UInt8) : rdC m (beb 8 n ++ r, 0) = (n, r, 0) := by
 unfold rdC
 simp only [ne_eq, not_true_eq_false, if_false, List.length_append, beb_length]
 have hb : be (beb 8 n) = n := be_beb (k := 8) (by rw [p8]; omega)
 rw [if_pos (by omega), take_app (beb_length 8 n), drop_app (beb_length 8 n), hb, if_pos h]
theorem rdT_enc {t : List UInt8} (h : t.length ≤ 2048) (r : List UInt8) : rdT (beb 2 t.length ++ t ++ r, 0) = (t, r, 0) := by
 unfold rdT
 have hb : be (beb 2 t.length) = t.length := be_beb (k := 2) (by rw [p2]; omega)
 simp only [ne_eq, not_true_eq_false, if_false, List.append_assoc, List.length_append, beb_length]
 rw [if_pos (by omega), take_app (beb_length 2 _), drop_app (beb_length 2 _), hb, if_pos h, if_pos (by rw [List.length_append]; omega), take_app rfl, drop_app rfl]
theorem wds_flat : ∀ (ns : List Nat) (r : List UInt8), (∀ z ∈ ns, z < 18446744073709551616) → wds (ns.flatMap (beb 8) ++ r) ns.length = ns := by
 intro ns
 induction ns with
 | nil => intro r _; rfl
 | cons n ns ih =>
  intro r h
  have e := ih r fun z hz => h z (.tail _ hz)
  unfold wds at e ⊢
  rw [List.length_cons, List.range_succ_eq_map, List.map_cons, List.map_map, List.flatMap_cons, List.append_assoc]
  congr 1
  · rw [Nat.mul_zero, List.drop_zero, take_app (beb_length 8 n)]
    exact be_beb (k := 8) (by rw [p8]; exact h n (.head _))
theorem rdW_enc {ns : List Nat} (h : ns.length ≤ 1024) (hz : ∀ z ∈ ns, z < 18446744073709551616) (r : List UInt8) : rdW (beb 2 ns.length ++ ns.flatMap (beb 8) ++ r, 0) = (ns, r, 0) := by
 unfold rdW
 have hb : be (beb 2 ns.length) = ns.length := be_beb (k := 2) (by rw [p2]; omega)
 simp only [ne_eq, not_true_eq_false, if_false, List.append_assoc, List.length_append, beb_length]
 rw [if_pos (by omega), take_app (beb_length 2 _), drop_app (beb_length 2 _), hb, if_pos h, if_pos (by rw [List.length_append, flatMap_beb]; omega), wds_flat ns r hz]
 rw [drop_app (flatMap_beb ns)]
theorem i64_u64 {z : Int} (h1 : -9223372036854775808 ≤ z) (h2 : z < 9223372036854775808) : i64 (u64 z) = z := by unfold i64 u64; omega
def Reads (it : It) : Prop := ∀ d, WF it d → (enc it d ([], 0)).2 = 0 → ∀ r, dec it ((enc it d ([], 0)).1 ++ r, 0) = (d, r, 0)
def Readss (its : List It) : Prop := ∀ ds, WFs its ds → (encs its ds ([], 0)).2 = 0 → ∀ r, decs its ((encs its ds ([], 0)).1 ++ r, 0) = (ds, r, 0)
theorem readss_of : ∀ its : List It, (∀ it ∈ its, Reads it) → Readss its := by
 intro its
 induction its with
 | nil =>
  intro _ ds h _ r
  have e1 : ds = [] := List.eq_nil_of_length_eq_zero h.1
  subst e1
  simp [encs, decs]
 | cons it its ih =>
  intro hi ds h e r
  match ds, h, e with
  | d :: ds, h, e =>
   simp only [encs] at e ⊢
   obtain ⟨a1, a2, a3⟩ := two (f := enc it d) (encs_app its ds) (encs_keeps its ds) e
   rw [a3, List.append_assoc]
   simp only [decs]
   rw [hi it (.head _) d (h.2 0 it d rfl rfl) a1]
   simp only
   rw [ih (fun x hx => hi x (.tail _ hx)) ds ⟨by simpa using h.1, fun j x y p q => h.2 (j + 1) x y p q⟩ a2 r]
theorem lfold_app (its : List It) : ∀ es : List (List D), App fun st => es.foldl (fun st ds => if st.2 = 0 then encs its ds st else st) st := App.fold fun ds => by
 intro b e
 show (if e = 0 then encs its ds (b, e) else (b, e)) = (b ++ (if e = 0 then encs its ds ([], e) else ([], e)).1, (if e = 0 then encs its ds ([], e) else ([], e)).2)
 by_cases he : e = 0
 · simp only [if_pos he]; exact encs_app its ds b e
 · simp only [if_neg he, List.append_nil]
theorem lfold_keeps (its : List It) : ∀ es : List (List D), Keeps fun st => es.foldl (fun st ds => if st.2 = 0 then encs its ds st else st) st := fold_keeps fun ds st h => by
 by_cases he : st.2 = 0
 · exact he
 · simpa [if_neg he] using h
theorem lfold_cons (its : List It) (ds : List D) (es : List (List D)) (e : ((ds :: es).foldl (fun st ds => if st.2 = 0 then encs its ds st else st) (([], 0) : PenS)).2 = 0) :
 (encs its ds ([], 0)).2 = 0 ∧ (es.foldl (fun st ds => if st.2 = 0 then encs its ds st else st) (([], 0) : PenS)).2 = 0 ∧
 ((ds :: es).foldl (fun st ds => if st.2 = 0 then encs its ds st else st) (([], 0) : PenS)).1 = (encs its ds ([], 0)).1 ++ (es.foldl (fun st ds => if st.2 = 0 then encs its ds st else st) (([], 0) : PenS)).1 := by
 rw [List.foldl_cons] at e ⊢
 simp only [if_true] at e ⊢
 exact two (f := encs its ds) (lfold_app its es) (lfold_keeps its es) e
theorem list_reads {its : List It} (h : Readss its) : ∀ (es : List (List D)) (r : List UInt8), (∀ ds ∈ es, WFs its ds) → (es.foldl (fun st ds => if st.2 = 0 then encs its ds st else st) ([], 0)).2 = 0 →
 decL (decs its) es.length ((es.foldl (fun st ds => if st.2 = 0 then encs its ds st else st) ([], 0)).1 ++ r, 0) = (es, r, 0) := by
 intro es
 induction es with
 | nil => intro r _ _; rfl
 | cons ds es ih =>
  intro r hw e
  obtain ⟨a1, a2, a3⟩ := lfold_cons its ds es e
  rw [a3, List.append_assoc]
  simp only [List.length_cons, decL, ne_eq, not_true_eq_false, if_false]
  rw [h ds (hw _ (.head _)) a1]
  simp only
  rw [ih r (fun x hx => hw x (.tail _ hx)) a2]
theorem enc_list {its : List It} {es : List (List D)} (e : (enc (.list its) (.l es) ([], 0)).2 = 0) : es.length ≤ 1048576 ∧ (es.foldl (fun st ds => if st.2 = 0 then encs its ds st else st) (([], 0) : PenS)).2 = 0 ∧
 (enc (.list its) (.l es) ([], 0)).1 = beb 8 es.length ++ (es.foldl (fun st ds => if st.2 = 0 then encs its ds st else st) (([], 0) : PenS)).1 := by
 simp only [enc] at e ⊢
 by_cases hb : 1048576 < es.length
 · rw [if_pos hb] at e; simp [wr] at e
 rw [if_neg hb] at e ⊢
 have hw1 : ∀ n, wrN (beb 8 n) (([], 0) : PenS) = (beb 8 n, 0) := fun n => rfl
 have hA := lfold_app its es (beb 8 es.length) 0
 simp only at hA
 rw [hw1, hA] at e ⊢
 exact ⟨by omega, e, rfl⟩
theorem reads_list {its : List It} (h : Readss its) : Reads (.list its) := by
 intro d w e r
 cases w with
 | @list _ es hl hr =>
 obtain ⟨hb, e1, e2⟩ := enc_list e
 rw [e2, List.append_assoc]
 simp only [dec]
 rw [rdC_beb hb (by omega)]
 simp only
 rw [list_reads h es r (fun ds hd => ⟨hl ds hd, fun j it d p q => by obtain ⟨k, hk⟩ := List.getElem?_of_mem hd; exact hr k ds j it d hk p q⟩) e1]
theorem enc_text {l : List UInt8} (e : (enc .text (.s l) ([], 0)).2 = 0) : l.length ≤ 2048 ∧ (enc .text (.s l) ([], 0)).1 = beb 2 l.length ++ l := by
 simp only [enc, wr, if_true, List.nil_append] at e ⊢
 unfold encText at e ⊢
 by_cases hl : 2048 < l.length
 · rw [if_pos hl] at e; simp at e
 · rw [if_neg hl]; exact ⟨by omega, rfl⟩
theorem enc_nums {ns : List Nat} (e : (enc .nums (.l (ns.map fun z : Nat => [.n (z : Int)])) ([], 0)).2 = 0) : ns.length ≤ 1024 ∧ (enc .nums (.l (ns.map fun z : Nat => [.n (z : Int)])) ([], 0)).1 = beb 2 ns.length ++ ns.flatMap (beb 8) := by
 simp only [enc, wr, if_true, List.nil_append, numOf_map] at e ⊢
 unfold encNums at e ⊢
 by_cases hl : 1024 < ns.length
 · rw [if_pos hl] at e; simp at e
 · rw [if_neg hl]; exact ⟨by omega, rfl⟩
mutual
theorem reads_it : ∀ it : It, Reads it
 | .num => by
  intro d w e r
  cases w with | @num z h =>
  simp only [enc, wrN, List.nil_append, dec, Int.toNat_natCast]
  rw [rdN_beb (k := 8) (by simpa using h)]
 | .kind => by
  intro d w e r
  cases w with | @kind z h =>
  simp only [enc, wrN, List.nil_append, dec, Int.toNat_natCast]
  rw [rdN_beb (k := 1) (by simpa using h)]
 | .int => by
  intro d w e r
  cases w with | @int z h1 h2 =>
  simp only [enc, wrN, List.nil_append, dec]
  rw [rdN_beb (k := 8) (u64_lt _)]
  simp only [i64_u64 h1 h2]
 | .is => by
  intro d w e r
  cases w with | @is b =>
  simp only [enc, wrN, List.nil_append, dec]
  have e := rdC_beb (m := 1) (n := if b then 1 else 0) (by cases b <;> simp) (by omega) r
  simp only [e]
  cases b <;> rfl
 | .text => by
  intro d w e r
  cases w with | @text l =>
  obtain ⟨h1, h2⟩ := enc_text e
  rw [h2]
  simp only [dec]
  rw [rdT_enc h1]
 | .nums => by
  intro d w e r
  cases w with | @nums ns h =>
  obtain ⟨h1, h2⟩ := enc_nums e
  rw [h2]
  simp only [dec]
  rw [rdW_enc h1 h]
 | .list its => reads_list (readss_of its (reads_its its))
theorem reads_its : ∀ (its : List It), ∀ it ∈ its, Reads it
 | [] => fun x hx => nomatch hx
 | it :: its => fun x hx => by
  rcases List.mem_cons.1 hx with e | hx
  · rw [e]; exact reads_it it
  · exact reads_its its x hx
end
end Go.Am

namespace Go.Am
open Go.RowKit Go.MapKept Go.Proofs Go.Proofs.Rdr
variable {most : Nat}
structure Eye (σ : St) (W : Nat → Prop) (rr : Nat) (st : RS) : Prop where
 inW : W rr
 lt : ∀ i, W i → i < σ.n
 obj : σ.obj rr = some (.cells [.string ⟨⟨st.1⟩⟩, .int .i64 (.ofNat st.2)] 168 .exact)
 len : st.1.length < 9223372036854775808
abbrev eye (rr : Nat) : Value := .iface 103 (.agg ⟨[pt rr 0]⟩)
theorem writeK_exact {σ : St} {i o : Nat} {vs new : List Value} {e : TypeId} (h : σ.obj i = some (.cells vs e .exact)) (ho : o + new.length ≤ vs.length) (k : St → Bool) : writeK σ i o new k = k (σ.set i (.cells (splice o new vs) e .exact)) := by
 unfold writeK
 rw [cellsK_h h]
 show spliceK o new vs (fun vs => setK σ i (.cells vs e .exact) k) = _
 rw [spliceK_eq, if_pos ho, setK_eq]
theorem Eye.new {σ : St} {W : Nat → Prop} {rr : Nat} {st : RS} (h : Eye σ W rr st) (o : AObj) : Eye (σ.new o) W rr st :=
 ⟨h.inW, fun i hi => Nat.lt_succ_of_lt (h.lt i hi), by rw [obj_new_old (Nat.ne_of_lt (h.lt rr h.inW))]; exact h.obj, h.len⟩
theorem Eye.lt1 {σ : St} {W : Nat → Prop} {rr : Nat} {st : RS} (h : Eye σ W rr st) : rr < σ.n := h.lt rr h.inW
theorem Eye.nW {σ : St} {W : Nat → Prop} {rr : Nat} {st : RS} (h : Eye σ W rr st) : ¬ W σ.n := fun hb => Nat.lt_irrefl _ (h.lt _ hb)
theorem Eye.turn {σ : St} {W : Nat → Prop} {rr : Nat} {st : RS} (h : Eye σ W rr st) (st' : RS) (hl : st'.1.length ≤ st.1.length) :
 Eye (σ.set rr (.cells [.string ⟨⟨st'.1⟩⟩, .int .i64 (.ofNat st'.2)] 168 .exact)) W rr st' ∧ Fr' W σ (σ.set rr (.cells [.string ⟨⟨st'.1⟩⟩, .int .i64 (.ofNat st'.2)] 168 .exact)) W :=
 ⟨⟨h.inW, h.lt, obj_set_same, Nat.lt_of_le_of_lt hl h.len⟩, ⟨Nat.le_refl _, fun _ _ hi => obj_set_other fun e => hi (e ▸ h.inW), fun _ h => .inl h⟩⟩
theorem eq_zero_i (e : Nat) : eqI (.ofNat e) 0 = decide (e = 0) := by
 rw [eqI_eq]
 by_cases h : e = 0
 · subst h; rfl
 · rw [decide_eq_false h]
   have : ¬ (Int.ofNat e = 0) := fun c => h (Int.ofNat.inj c)
   simpa using this
theorem rdK_s {σ : St} {W : Nat → Prop} {rr : Nat} {st : RS} (h : Eye σ W rr st) {zero v : Value} {st' : RS} {parse : Parse} (he : st.2 ≠ 0 → v = zero ∧ st' = st)
 (hp : st.2 = 0 → ∀ (ok : Value → List UInt8 → Bool) (no : Int → Bool), parse st.1 st.1.length ok no = if st'.2 = 0 then ok v st'.1 else no (.ofNat st'.2))
 (hz : st'.2 ≠ 0 → v = zero) (hl : st.2 = 0 → st'.2 ≠ 0 → st'.1 = []) (hle : st'.1.length ≤ st.1.length) {K : VK}
 (hK : ∀ σ', Eye σ' W rr st' → Fr' W σ σ' W → K (.tuple ⟨[v, .int .i64 (.ofNat st'.2)]⟩) σ' = true) : rdK zero parse σ (pt rr 0) K = true := by
 show cellsK σ rr _ = true
 rw [cellsK_h h.obj]
 show (match eqI (.ofNat st.2) 0 with
  | true => lenK st.1 fun n => match Nat.blt n 9223372036854775808 with
   | true => parse st.1 n (fun v rest => writeK σ rr 0 [.string ⟨⟨rest⟩⟩] fun σ => K (.tuple ⟨[v, .int .i64 (.ofNat 0)]⟩) σ) (fun er => writeK σ rr 0 [.string ⟨⟨[]⟩⟩, .int .i64 er] fun σ => K (.tuple ⟨[zero, .int .i64 er]⟩) σ)
   | false => false
  | false => K (.tuple ⟨[zero, .int .i64 (.ofNat st.2)]⟩) σ) = true
 rw [eq_zero_i]
 by_cases h0 : st.2 = 0
 · rw [decide_eq_true h0, lenK_eq]
   simp only
   rw [show Nat.blt st.1.length 9223372036854775808 = true from Nat.ble_eq_true_of_le h.len]
   simp only
   rw [hp h0]
   by_cases h1 : st'.2 = 0
   · rw [if_pos h1, writeK_exact h.obj (by simp)]
     have := h.turn st' hle
     have e : splice 0 [Value.string ⟨⟨st'.1⟩⟩] [.string ⟨⟨st.1⟩⟩, .int .i64 (.ofNat st.2)] = [.string ⟨⟨st'.1⟩⟩, .int .i64 (.ofNat st'.2)] := by simp [splice, h0, h1]
     rw [e]
     have h2 := hK _ this.1 this.2
     rw [h1] at h2 ⊢
     exact h2
   · rw [if_neg h1, writeK_exact h.obj (by simp)]
     have := h.turn st' hle
     have e : splice 0 [Value.string ⟨⟨[]⟩⟩, .int .i64 (.ofNat st'.2)] [.string ⟨⟨st.1⟩⟩, .int .i64 (.ofNat st.2)] = [.string ⟨⟨st'.1⟩⟩, .int .i64 (.ofNat st'.2)] := by simp [splice, hl h0 h1]
     rw [e]
     have h2 := hK _ this.1 this.2
     rw [hz h1] at h2
     exact h2
 · rw [decide_eq_false h0]
   obtain ⟨rfl, rfl⟩ := he h0
   exact hK σ h (.refl W σ)
theorem numP_eq (st : RS) (h0 : st.2 = 0) (ok : Value → List UInt8 → Bool) (no : Int → Bool) : numP st.1 st.1.length ok no = if (rdN 8 st).2.2 = 0 then ok (.int .u64 (.ofNat (rdN 8 st).1)) (rdN 8 st).2.1 else no (.ofNat (rdN 8 st).2.2) := by
 unfold numP rdN
 have e0 : ¬ st.2 ≠ 0 := by simp [h0]
 simp only [if_neg e0]
 by_cases h : 8 ≤ st.1.length
 · rw [show Nat.ble 8 st.1.length = true from Nat.ble_eq_true_of_le h]
   simp only [if_pos h, if_true]
   rw [takeK_eq, if_pos h, dropK_eq, if_pos h, beK_eq]
 · rw [show Nat.ble 8 st.1.length = false from by cases q : Nat.ble 8 st.1.length with | false => rfl | true => exact absurd (Nat.le_of_ble_eq_true q) h]
   simp [if_neg h]
theorem byteP_eq (st : RS) (h0 : st.2 = 0) (ok : Value → List UInt8 → Bool) (no : Int → Bool) : byteP st.1 st.1.length ok no = if (rdN 1 st).2.2 = 0 then ok (.int .u8 (.ofNat (rdN 1 st).1)) (rdN 1 st).2.1 else no (.ofNat (rdN 1 st).2.2) := by
 unfold byteP rdN
 have e0 : ¬ st.2 ≠ 0 := by simp [h0]
 simp only [if_neg e0]
 by_cases h : 1 ≤ st.1.length
 · rw [show Nat.ble 1 st.1.length = true from Nat.ble_eq_true_of_le h]
   simp only [if_pos h, if_true]
   rw [takeK_eq, if_pos h, dropK_eq, if_pos h, beK_eq]
 · rw [show Nat.ble 1 st.1.length = false from by cases q : Nat.ble 1 st.1.length with | false => rfl | true => exact absurd (Nat.le_of_ble_eq_true q) h]
   simp [if_neg h]
theorem ble_f {a b : Nat} (h : ¬ a ≤ b) : Nat.ble a b = false := by cases q : Nat.ble a b with | false => rfl | true => exact absurd (Nat.le_of_ble_eq_true q) h
theorem ble_t {a b : Nat} (h : a ≤ b) : Nat.ble a b = true := Nat.ble_eq_true_of_le h
theorem countP_eq (m : Nat) (st : RS) (h0 : st.2 = 0) (ok : Value → List UInt8 → Bool) (no : Int → Bool) : countP m st.1 st.1.length ok no = if (rdC m st).2.2 = 0 then ok (.int .i64 (.ofNat (rdC m st).1)) (rdC m st).2.1 else no (.ofNat (rdC m st).2.2) := by
 unfold countP rdC
 have e0 : ¬ st.2 ≠ 0 := by simp [h0]
 simp only [if_neg e0]
 by_cases h : 8 ≤ st.1.length
 · rw [ble_t h]
   simp only [if_pos h]
   rw [takeK_eq, if_pos h, dropK_eq, if_pos h, beK_eq]
   by_cases h1 : be (st.1.take 8) ≤ m
   · rw [ble_t h1]; simp [if_pos h1]
   · rw [ble_f h1]; simp [if_neg h1]
 · rw [ble_f h]; simp [if_neg h]
theorem textP_eq (st : RS) (h0 : st.2 = 0) (ok : Value → List UInt8 → Bool) (no : Int → Bool) : textP st.1 st.1.length ok no = if (rdT st).2.2 = 0 then ok (.string ⟨⟨(rdT st).1⟩⟩) (rdT st).2.1 else no (.ofNat (rdT st).2.2) := by
 unfold textP rdT
 have e0 : ¬ st.2 ≠ 0 := by simp [h0]
 simp only [if_neg e0]
 by_cases h : 2 ≤ st.1.length
 · rw [ble_t h]
   simp only [if_pos h]
   rw [takeK_eq, if_pos h, dropK_eq, if_pos h, beK_eq]
   by_cases h1 : be (st.1.take 2) ≤ 2048
   · rw [ble_t h1]
     simp only [if_pos h1]
     rw [lenK_eq]
     by_cases h2 : be (st.1.take 2) ≤ (st.1.drop 2).length
     · rw [ble_t h2]
       simp only [if_pos h2, if_true]
       rw [takeK_eq, if_pos h2, dropK_eq, if_pos h2]
     · rw [ble_f h2]; simp only [if_neg h2]; rfl
   · rw [ble_f h1]; simp [if_neg h1]
 · rw [ble_f h]; simp [if_neg h]
theorem rdN_le (k : Nat) (st : RS) : (rdN k st).2.1.length ≤ st.1.length := by
 unfold rdN
 split
 · exact Nat.le_refl _
 · split
   · simp
   · simp
theorem rdC_le (k : Nat) (st : RS) : (rdC k st).2.1.length ≤ st.1.length := by
 unfold rdC
 split
 · exact Nat.le_refl _
 · split
   · split <;> simp
   · simp
theorem rdT_le (st : RS) : (rdT st).2.1.length ≤ st.1.length := by
 unfold rdT
 split
 · exact Nat.le_refl _
 · split
   · split
     · split
       · simp
       · simp
     · simp
   · simp
theorem rdW_le (st : RS) : (rdW st).2.1.length ≤ st.1.length := by
 unfold rdW
 split
 · exact Nat.le_refl _
 · split
   · split
     · split
       · simp
       · simp
     · simp
   · simp
theorem rdN_z (k : Nat) (st : RS) (h : (rdN k st).2.2 ≠ 0) : (rdN k st).1 = 0 ∧ (st.2 = 0 → (rdN k st).2.1 = []) := by
 unfold rdN at h ⊢
 split
 · rename_i h1; exact ⟨rfl, fun c => absurd c h1⟩
 · rename_i h1
   rw [if_neg h1] at h
   split
   · rename_i h2; rw [if_pos h2] at h; exact absurd rfl h
   · exact ⟨rfl, fun _ => rfl⟩
theorem rdC_z (k : Nat) (st : RS) (h : (rdC k st).2.2 ≠ 0) : (rdC k st).1 = 0 ∧ (st.2 = 0 → (rdC k st).2.1 = []) := by
 unfold rdC at h ⊢
 split
 · rename_i h1; exact ⟨rfl, fun c => absurd c h1⟩
 · rename_i h1
   rw [if_neg h1] at h
   split
   · rename_i h2
     rw [if_pos h2] at h
     split
     · rename_i h3; rw [if_pos h3] at h; exact absurd rfl h
     · exact ⟨rfl, fun _ => rfl⟩
   · exact ⟨rfl, fun _ => rfl⟩
theorem rdT_z (st : RS) (h : (rdT st).2.2 ≠ 0) : (rdT st).1 = [] ∧ (st.2 = 0 → (rdT st).2.1 = []) := by
 unfold rdT at h ⊢
 split
 · rename_i h1; exact ⟨rfl, fun c => absurd c h1⟩
 · rename_i h1
   rw [if_neg h1] at h
   split
   · rename_i h2
     rw [if_pos h2] at h
     split
     · rename_i h3
       rw [if_pos h3] at h
       split
       · rename_i h4; rw [if_pos h4] at h; exact absurd rfl h
       · exact ⟨rfl, fun _ => rfl⟩
     · exact ⟨rfl, fun _ => rfl⟩
   · exact ⟨rfl, fun _ => rfl⟩
theorem rdN_e (k : Nat) (st : RS) (h : st.2 ≠ 0) : rdN k st = (0, st) := by unfold rdN; rw [if_pos h]
theorem rdC_e (k : Nat) (st : RS) (h : st.2 ≠ 0) : rdC k st = (0, st) := by unfold rdC; rw [if_pos h]
theorem rdT_e (st : RS) (h : st.2 ≠ 0) : rdT st = ([], st) := by unfold rdT; rw [if_pos h]
theorem rdW_e (st : RS) (h : st.2 ≠ 0) : rdW st = ([], st) := by unfold rdW; rw [if_pos h]
section
variable {σ : St} {W : Nat → Prop} {rr : Nat} {st : RS} {n : Nat} {K : VK}
theorem Num_s (h : Eye σ W rr st) (hK : ∀ σ', Eye σ' W rr (rdN 8 st).2 → Fr' W σ σ' W → K (.tuple ⟨[.int .u64 (.ofNat (rdN 8 st).1), .int .i64 (.ofNat (rdN 8 st).2.2)]⟩) σ' = true) :
 (X most (n + 2)).C c_wire_Reader_Num [pt rr 0] σ K = true := by
 rw [X_call (by rfl), f_wire_Reader_Num]
 unfold r_wire_Reader_Num
 rw [X_ov (g := ovRd c_wire_Reader_Num_1 (.int .u64 (.ofNat 0)) numP) (by rfl)]
 show rdK (.int .u64 (.ofNat 0)) numP σ (pt rr 0) _ = true
 refine rdK_s h (v := .int .u64 (.ofNat (rdN 8 st).1)) (st' := (rdN 8 st).2) (fun he => by rw [rdN_e 8 st he]; exact ⟨rfl, rfl⟩) (fun h0 => numP_eq st h0) (fun hz => by rw [(rdN_z 8 st hz).1]) (fun h0 hz => (rdN_z 8 st hz).2 h0) (rdN_le 8 st) fun σ' h1 f => ?_
 exact hK σ' h1 f
theorem ByteR_s (h : Eye σ W rr st) (hK : ∀ σ', Eye σ' W rr (rdN 1 st).2 → Fr' W σ σ' W → K (.tuple ⟨[.int .u8 (.ofNat (rdN 1 st).1), .int .i64 (.ofNat (rdN 1 st).2.2)]⟩) σ' = true) :
 (X most (n + 2)).C c_wire_Reader_Byte [pt rr 0] σ K = true := by
 rw [X_call (by rfl), f_wire_Reader_Byte]
 unfold r_wire_Reader_Byte
 rw [X_ov (g := ovRd c_wire_Reader_Byte_1 (.int .u8 (.ofNat 0)) byteP) (by rfl)]
 show rdK (.int .u8 (.ofNat 0)) byteP σ (pt rr 0) _ = true
 refine rdK_s h (v := .int .u8 (.ofNat (rdN 1 st).1)) (st' := (rdN 1 st).2) (fun he => by rw [rdN_e 1 st he]; exact ⟨rfl, rfl⟩) (fun h0 => byteP_eq st h0) (fun hz => by rw [(rdN_z 1 st hz).1]) (fun h0 hz => (rdN_z 1 st hz).2 h0) (rdN_le 1 st) fun σ' h1 f => ?_
 exact hK σ' h1 f
theorem TextR_s (h : Eye σ W rr st) (hK : ∀ σ', Eye σ' W rr (rdT st).2 → Fr' W σ σ' W → K (.tuple ⟨[.string ⟨⟨(rdT st).1⟩⟩, .int .i64 (.ofNat (rdT st).2.2)]⟩) σ' = true) :
 (X most (n + 2)).C c_wire_Reader_Text [pt rr 0] σ K = true := by
 rw [X_call (by rfl), f_wire_Reader_Text]
 unfold r_wire_Reader_Text
 rw [X_ov (g := ovRd c_wire_Reader_Text_1 zS textP) (by rfl)]
 show rdK zS textP σ (pt rr 0) _ = true
 refine rdK_s h (v := .string ⟨⟨(rdT st).1⟩⟩) (st' := (rdT st).2) (fun he => by rw [rdT_e st he]; exact ⟨rfl, rfl⟩) (fun h0 => textP_eq st h0) (fun hz => by rw [(rdT_z st hz).1]) (fun h0 hz => (rdT_z st hz).2 h0) (rdT_le st) fun σ' h1 f => ?_
 exact hK σ' h1 f
theorem Count_s (h : Eye σ W rr st) {m : Nat} (hm : m < 9223372036854775808) (hK : ∀ σ', Eye σ' W rr (rdC m st).2 → Fr' W σ σ' W → K (.tuple ⟨[.int .i64 (.ofNat (rdC m st).1), .int .i64 (.ofNat (rdC m st).2.2)]⟩) σ' = true) :
 (X most (n + 2)).C c_wire_Reader_Count [pt rr 0, .int .i64 (.ofNat m)] σ K = true := by
 rw [X_call (by rfl), f_wire_Reader_Count]
 unfold r_wire_Reader_Count
 rw [boxK_one rfl, X_ov (g := ovCnt) (by rfl)]
 have h1 := h.new (.cells [.int .i64 (.ofNat m)] 3 .exact)
 show cellsK (σ.new (.cells [.int .i64 (.ofNat m)] 3 .exact)) σ.n _ = true
 rw [cellsK_h obj_new_same]
 show (match Nat.blt m 9223372036854775808 with | true => rdK zI (countP m) (σ.new (.cells [.int .i64 (.ofNat m)] 3 .exact)) (pt rr 0) _ | false => false) = true
 rw [show Nat.blt m 9223372036854775808 = true from Nat.ble_eq_true_of_le hm]
 simp only
 refine rdK_s h1 (v := .int .i64 (.ofNat (rdC m st).1)) (st' := (rdC m st).2) (fun he => by rw [rdC_e m st he]; exact ⟨rfl, rfl⟩) (fun h0 => countP_eq m st h0) (fun hz => by rw [(rdC_z m st hz).1]) (fun h0 hz => (rdC_z m st hz).2 h0) (rdC_le m st) fun σ' h1 f => ?_
 exact hK σ' h1 ((Fr'.new W σ _).trans f)
theorem Wrong_s (h : Eye σ W rr st) (K : VK) : (X most (n + 1)).C c_wire_Reader_Wrong [pt rr 0] σ K = K (.int .i64 (.ofNat st.2)) σ := by
 rw [X_call (by rfl), f_wire_Reader_Wrong]
 unfold r_wire_Reader_Wrong
 have hb : ∀ K : Value → Bool, rBin PP .eql 100 (pt rr 0) (.pointer none) K = K zF := fun K => by kernel_rfl
 rw [hb, rIf_f, rNil_p, rFld_p, Nat.zero_add, rLd_h h.obj rfl]
theorem ListR_s (h : Eye σ W rr st) (hK : ∀ σ' v, Eye σ' W rr (rdW st).2 → Fr' W σ σ' W → ((v = .slice none 0 0 ∧ (rdW st).1 = []) ∨ (v = .slice (some ⟨σ.n, 0, some 0⟩) (rdW st).1.length (rdW st).1.length ∧ σ'.n = σ.n + 1 ∧ σ'.obj σ.n = some (.cells ((rdW st).1.map fun z : Nat => .int .u64 (.ofNat z)) 57 (.grown [])))) →
 K (.tuple ⟨[v, .int .i64 (.ofNat (rdW st).2.2)]⟩) σ' = true) : (X most (n + 2)).C c_wire_Reader_List [pt rr 0] σ K = true := by
 rw [X_call (by rfl), f_wire_Reader_List]
 unfold r_wire_Reader_List
 rw [X_ov (g := ovList) (by rfl)]
 show cellsK σ rr _ = true
 rw [cellsK_h h.obj]
 show (match eqI (.ofNat st.2) 0 with
  | true => lenK st.1 fun n => match Nat.blt n 9223372036854775808 with
   | true => listK st.1 n (fun vs rest => writeK σ rr 0 [.string ⟨⟨rest⟩⟩] fun σ => rowK vs σ _) (fun er => writeK σ rr 0 [.string ⟨⟨[]⟩⟩, .int .i64 er] fun σ => _)
   | false => false
  | false => _) = true
 rw [eq_zero_i]
 by_cases h0 : st.2 = 0
 · rw [decide_eq_true h0, lenK_eq]
   simp only
   rw [show Nat.blt st.1.length 9223372036854775808 = true from Nat.ble_eq_true_of_le h.len]
   simp only
   have hle := rdW_le st
   unfold rdW at hK hle
   rw [if_neg (by simp [h0])] at hK hle
   unfold listK
   have lack : ∀ (er : Nat), (∀ σ' v, Eye σ' W rr ([], er) → Fr' W σ σ' W → ((v = .slice none 0 0 ∧ ([] : List Nat) = []) ∨ (v = .slice (some ⟨σ.n, 0, some 0⟩) ([] : List Nat).length ([] : List Nat).length ∧ σ'.n = σ.n + 1 ∧ σ'.obj σ.n = some (.cells (([] : List Nat).map fun z : Nat => .int .u64 (.ofNat z)) 57 (.grown [])))) →
    K (.tuple ⟨[v, .int .i64 (.ofNat er)]⟩) σ' = true) → ∀ K2 : St → Bool, (∀ σ', K (.tuple ⟨[.slice none 0 0, .int .i64 (.ofNat er)]⟩) σ' = true → K2 σ' = true) → writeK σ rr 0 [.string ⟨⟨[]⟩⟩, .int .i64 (.ofNat er)] K2 = true := by
    intro er hK K2 hK2
    rw [writeK_exact h.obj (by simp)]
    have := h.turn ([], er) (by simp)
    have e : splice 0 [Value.string ⟨⟨[]⟩⟩, .int .i64 (.ofNat er)] [.string ⟨⟨st.1⟩⟩, .int .i64 (.ofNat st.2)] = [.string ⟨⟨[]⟩⟩, .int .i64 (.ofNat er)] := by simp [splice]
    rw [e]
    exact hK2 _ (hK _ _ this.1 this.2 (.inl ⟨rfl, rfl⟩))
   by_cases h2 : 2 ≤ st.1.length
   · rw [ble_t h2]
     rw [if_pos h2] at hK hle
     simp only
     rw [takeK_eq, if_pos h2, dropK_eq, if_pos h2, beK_eq]
     by_cases h3 : be (st.1.take 2) ≤ 1024
     · rw [ble_t h3]
       rw [if_pos h3] at hK hle
       simp only
       rw [lenK_eq]
       by_cases h4 : be (st.1.take 2) * 8 ≤ (st.1.drop 2).length
       · rw [show Nat.ble (Nat.mul (be (st.1.take 2)) 8) (st.1.drop 2).length = true from ble_t h4]
         rw [if_pos h4] at hK hle
         simp only
         rw [wdsK_eq _ _ _ h4, writeK_exact h.obj (by simp)]
         have ht := h.turn ((st.1.drop 2).drop (8 * be (st.1.take 2)), 0) hle
         have e : splice 0 [Value.string ⟨⟨(st.1.drop 2).drop (8 * be (st.1.take 2))⟩⟩] [.string ⟨⟨st.1⟩⟩, .int .i64 (.ofNat st.2)] = [.string ⟨⟨(st.1.drop 2).drop (8 * be (st.1.take 2))⟩⟩, .int .i64 (.ofNat 0)] := by simp [splice, h0]
         rw [e]
         unfold rowK
         rw [lenK_eq]
         have hwl : (wvals (st.1.drop 2) (be (st.1.take 2))).length = be (st.1.take 2) := by simp [wvals, wds_length]
         rw [hwl]
         simp only [wds_length] at hK
         generalize hN : be (st.1.take 2) = N at *
         cases N with
         | zero =>
          exact hK _ _ ht.1 ht.2 (.inl ⟨rfl, rfl⟩)
         | succ N =>
          show newK _ _ _ = true
          rw [newK_eq]
          exact hK _ _ (ht.1.new _) (ht.2.trans (.new W _ _)) (.inr ⟨rfl, rfl, obj_new_same⟩)
       · rw [show Nat.ble (Nat.mul (be (st.1.take 2)) 8) (st.1.drop 2).length = false from ble_f h4]
         rw [if_neg h4] at hK
         simp only
         exact lack 8 hK _ fun σ' h => h
     · rw [ble_f h3]
       rw [if_neg h3] at hK
       simp only
       exact lack 40 hK _ fun σ' h => h
   · rw [ble_f h2]
     rw [if_neg h2] at hK
     simp only
     exact lack 8 hK _ fun σ' h => h
 · rw [decide_eq_false h0]
   rw [rdW_e st h0] at hK
   simp only
   exact hK σ _ h (.refl W σ) (.inl ⟨rfl, rfl⟩)
end
end Go.Am

namespace Go.Am
open Go.RowKit Go.MapKept Go.Proofs Go.Proofs.Rdr
theorem decL_err (f : RS → List D × RS) : ∀ (n : Nat) (st : RS), st.2 ≠ 0 → decL f n st = ([], st) := by
 intro n st h
 cases n with
 | zero => rfl
 | succ n => simp only [decL]; rw [if_pos h]
mutual
theorem dec_err : ∀ (it : It) (st : RS), st.2 ≠ 0 → (dec it st).2 = st
 | .num, st, h => by simp only [dec, rdN, if_pos h]
 | .kind, st, h => by simp only [dec, rdN, if_pos h]
 | .int, st, h => by simp only [dec, rdN, if_pos h]
 | .is, st, h => by simp only [dec, rdC, if_pos h]
 | .text, st, h => by simp only [dec, rdT, if_pos h]
 | .nums, st, h => by simp only [dec, rdW, if_pos h]
 | .list its, st, h => by simp only [dec, rdC, if_pos h, decL]
theorem decs_err : ∀ (its : List It) (st : RS), st.2 ≠ 0 → (decs its st).2 = st
 | [], _, _ => rfl
 | it :: its, st, h => by simp only [decs]; rw [dec_err it st h, decs_err its st h]
end
theorem decs_err2 (its : List It) (st : RS) (h : st.2 ≠ 0) : (decs its st).2.2 = st.2 := by rw [decs_err its st h]
theorem cut {a b p q : List UInt8} (h : a ++ b = p ++ q) (_hq : q ≠ []) : (∃ c, a = p ++ c ∧ c ≠ []) ∨ ∃ p', p = a ++ p' ∧ b = p' ++ q := by
 rcases List.append_eq_append_iff.1 h with ⟨c, h1, h2⟩ | ⟨c, h1, h2⟩
 · exact .inr ⟨c, h1, h2⟩
 · by_cases hc : c = []
   · subst hc; exact .inr ⟨[], by simpa using h1.symm, by simpa using h2.symm⟩
   · exact .inl ⟨c, h1, hc⟩
end Go.Am

namespace Go.Am
open Go.RowKit Go.MapKept Go.Proofs Go.Proofs.Rdr
theorem rdN_inv {k : Nat} {l r : List UInt8} {z : Nat} (h : rdN k (l, 0) = (z, r, 0)) : z < 256 ^ k ∧ l = beb k z ++ r := by
 unfold rdN at h
 simp only [ne_eq, not_true_eq_false, if_false] at h
 by_cases hk : k ≤ l.length
 · rw [if_pos hk] at h
   injection h with h1 h2
   injection h2 with h2 _
   have hl : (l.take k).length = k := by rw [List.length_take]; omega
   subst h1 h2
   refine ⟨by have := be_lt (l.take k); rwa [hl] at this, ?_⟩
   rw [beb_be hl, List.take_append_drop]
 · rw [if_neg hk] at h
   injection h with _ h2; injection h2 with _ h2; cases h2
theorem rdC_inv {m : Nat} {l r : List UInt8} {z : Nat} (h : rdC m (l, 0) = (z, r, 0)) : z ≤ m ∧ l = beb 8 z ++ r := by
 unfold rdC at h
 simp only [ne_eq, not_true_eq_false, if_false] at h
 by_cases hk : 8 ≤ l.length
 · rw [if_pos hk] at h
   by_cases hz : be (l.take 8) ≤ m
   · rw [if_pos hz] at h
     injection h with h1 h2
     injection h2 with h2 _
     have hl : (l.take 8).length = 8 := by rw [List.length_take]; omega
     subst h1 h2
     refine ⟨hz, ?_⟩
     rw [beb_be hl, List.take_append_drop]
   · rw [if_neg hz] at h
     injection h with _ h2; injection h2 with _ h2; cases h2
 · rw [if_neg hk] at h
   injection h with _ h2; injection h2 with _ h2; cases h2
theorem rdT_inv {l r t : List UInt8} (h : rdT (l, 0) = (t, r, 0)) : t.length ≤ 2048 ∧ l = beb 2 t.length ++ t ++ r := by
 unfold rdT at h
 simp only [ne_eq, not_true_eq_false, if_false] at h
 by_cases hk : 2 ≤ l.length
 · rw [if_pos hk] at h
   by_cases hz : be (l.take 2) ≤ 2048
   · rw [if_pos hz] at h
     by_cases hy : be (l.take 2) ≤ (l.drop 2).length
     · rw [if_pos hy] at h
       injection h with h1 h2
       injection h2 with h2 _
       have hl : (l.take 2).length = 2 := by rw [List.length_take]; omega
       have ht : t.length = be (l.take 2) := by rw [← h1, List.length_take]; omega
       refine ⟨by omega, ?_⟩
       rw [ht, beb_be hl, ← h1, ← h2, List.append_assoc, List.take_append_drop, List.take_append_drop]
     · rw [if_neg hy] at h
       injection h with _ h2; injection h2 with _ h2; cases h2
   · rw [if_neg hz] at h
     injection h with _ h2; injection h2 with _ h2; cases h2
 · rw [if_neg hk] at h
   injection h with _ h2; injection h2 with _ h2; cases h2
theorem flat_wds : ∀ (k : Nat) (l : List UInt8), 8 * k ≤ l.length → (wds l k).flatMap (beb 8) ++ l.drop (8 * k) = l := by
 intro k
 induction k with
 | zero => intro l _; rfl
 | succ k ih =>
  intro l h
  rw [wds_succ, List.flatMap_append, List.append_assoc]
  have e : (l.drop (8 * k)).take 8 ++ l.drop (8 * (k + 1)) = l.drop (8 * k) := by
   rw [show 8 * (k + 1) = 8 * k + 8 by omega, ← List.drop_drop]
   exact List.take_append_drop _ _
  rw [List.flatMap_cons, List.flatMap_nil, List.append_nil, beb_be (by rw [List.length_take, List.length_drop]; omega), e]
  exact ih l (by omega)
theorem wds_lt {k : Nat} {l : List UInt8} (h : 8 * k ≤ l.length) : ∀ z ∈ wds l k, z < 18446744073709551616 := by
 intro z hz
 unfold wds at hz
 simp only [List.mem_map, List.mem_range] at hz
 obtain ⟨i, hi, rfl⟩ := hz
 have := be_lt ((l.drop (8 * i)).take 8)
 rw [List.length_take, List.length_drop, Nat.min_eq_left (by omega)] at this
 have e := p8; omega
theorem rdW_inv {l r : List UInt8} {ns : List Nat} (h : rdW (l, 0) = (ns, r, 0)) : ns.length ≤ 1024 ∧ (∀ z ∈ ns, z < 18446744073709551616) ∧ l = beb 2 ns.length ++ ns.flatMap (beb 8) ++ r := by
 unfold rdW at h
 simp only [ne_eq, not_true_eq_false, if_false] at h
 by_cases hk : 2 ≤ l.length
 · rw [if_pos hk] at h
   by_cases hz : be (l.take 2) ≤ 1024
   · rw [if_pos hz] at h
     by_cases hy : be (l.take 2) * 8 ≤ (l.drop 2).length
     · rw [if_pos hy] at h
       injection h with h1 h2
       injection h2 with h2 _
       have hl : (l.take 2).length = 2 := by rw [List.length_take]; omega
       have ht : ns.length = be (l.take 2) := by rw [← h1, wds_length]
       refine ⟨by omega, by rw [← h1]; exact wds_lt (by omega), ?_⟩
       rw [ht, beb_be hl, ← h1, ← h2, List.append_assoc, flat_wds _ _ (by omega), List.take_append_drop]
     · rw [if_neg hy] at h
       injection h with _ h2; injection h2 with _ h2; cases h2
   · rw [if_neg hz] at h
     injection h with _ h2; injection h2 with _ h2; cases h2
 · rw [if_neg hk] at h
   injection h with _ h2; injection h2 with _ h2; cases h2
theorem u64_i64 {z : Nat} (h : z < 18446744073709551616) : u64 (i64 z) = z := by unfold i64 u64; omega
theorem i64_rng (z : Nat) : -9223372036854775808 ≤ i64 z ∧ i64 z < 9223372036854775808 := by unfold i64; omega
def Inv' (it : It) : Prop := ∀ l d r, dec it (l, 0) = (d, r, 0) → WF it d ∧ (enc it d ([], 0)).2 = 0 ∧ l = (enc it d ([], 0)).1 ++ r
def Invs (its : List It) : Prop := ∀ l ds r, decs its (l, 0) = (ds, r, 0) → WFs its ds ∧ (encs its ds ([], 0)).2 = 0 ∧ l = (encs its ds ([], 0)).1 ++ r
theorem rs_eta {x : RS} (h : x.2 = 0) : x = (x.1, 0) := by obtain ⟨b, c⟩ := x; simp at h; subst h; rfl
theorem st_eta {α : Type} {x : α × RS} (h : x.2.2 = 0) : x = (x.1, x.2.1, 0) := by obtain ⟨a, b, c⟩ := x; simp at h; subst h; rfl
theorem decs_ok {its : List It} {st : RS} (h : (decs its st).2.2 = 0) : st.2 = 0 := by
 by_cases hs : st.2 = 0
 · exact hs
 · rw [decs_err2 its st hs] at h; exact h
theorem decL_ok {its : List It} {n : Nat} {st : RS} (h : (decL (decs its) n st).2.2 = 0) : st.2 = 0 := by
 by_cases hs : st.2 = 0
 · exact hs
 · rw [decL_err _ _ _ hs] at h; exact h
theorem invs_of : ∀ its : List It, (∀ it ∈ its, Inv' it) → Invs its := by
 intro its
 induction its with
 | nil =>
  intro _ l ds r h
  simp only [decs] at h
  injection h with h1 h2; injection h2 with h2 _
  subst h1 h2
  exact ⟨⟨rfl, fun j it d a => by simp at a⟩, rfl, rfl⟩
 | cons it its ih =>
  intro hi l ds r h
  simp only [decs] at h
  injection h with h1 h2
  have hs : (dec it (l, 0)).2.2 = 0 := decs_ok (its := its) (by rw [h2])
  have e1 := st_eta hs
  obtain ⟨w1, c1, l1⟩ := hi it (.head _) l _ _ e1
  have hs2 : (dec it (l, 0)).2 = ((dec it (l, 0)).2.1, 0) := rs_eta hs
  rw [hs2] at h1 h2
  obtain ⟨w2, c2, l2⟩ := ih (fun x hx => hi x (.tail _ hx)) _ _ _ (show decs its ((dec it (l, 0)).2.1, 0) = ((decs its ((dec it (l, 0)).2.1, 0)).1, r, 0) by rw [← h2])
  subst h1
  refine ⟨⟨by simp [w2.1], fun j x y p q => ?_⟩, ?_⟩
  · cases j with
    | zero => simp at p q; subst p q; exact w1
    | succ j => exact w2.2 j x y (by simpa using p) (by simpa using q)
  · simp only [encs]
    generalize hd : (dec it (l, 0)).1 = d at *
    generalize hds : (decs its ((dec it (l, 0)).2.1, 0)).1 = ds at *
    have ha := encs_app its ds (enc it d ([], 0)).1 (enc it d ([], 0)).2
    rw [show ((enc it d ([], 0)).1, (enc it d ([], 0)).2) = enc it d ([], 0) from rfl, c1] at ha
    rw [ha]
    refine ⟨c2, ?_⟩
    rw [List.append_assoc, ← l2, ← l1]
theorem list_inv {its : List It} (h : Invs its) : ∀ (n : Nat) (l : List UInt8) (es : List (List D)) (r : List UInt8), decL (decs its) n (l, 0) = (es, r, 0) →
 es.length = n ∧ (∀ ds ∈ es, WFs its ds) ∧ (es.foldl (fun st ds => if st.2 = 0 then encs its ds st else st) (([], 0) : PenS)).2 = 0 ∧ l = (es.foldl (fun st ds => if st.2 = 0 then encs its ds st else st) (([], 0) : PenS)).1 ++ r := by
 intro n
 induction n with
 | zero =>
  intro l es r hh
  simp only [decL] at hh
  injection hh with h1 h2; injection h2 with h2 _
  subst h1 h2
  exact ⟨rfl, (fun _ h => nomatch h), rfl, rfl⟩
 | succ n ih =>
  intro l es r hh
  simp only [decL, ne_eq, not_true_eq_false, if_false] at hh
  injection hh with h1 h2
  have hs : (decs its (l, 0)).2.2 = 0 := decL_ok (its := its) (n := n) (by rw [h2])
  obtain ⟨w1, c1, l1⟩ := h l _ _ (st_eta hs)
  have hs2 : (decs its (l, 0)).2 = ((decs its (l, 0)).2.1, 0) := rs_eta hs
  rw [hs2] at h1 h2
  obtain ⟨n2, w2, c2, l2⟩ := ih _ _ _ (show decL (decs its) n ((decs its (l, 0)).2.1, 0) = ((decL (decs its) n ((decs its (l, 0)).2.1, 0)).1, r, 0) by rw [← h2])
  subst h1
  refine ⟨by simp [n2], fun ds hd => ?_, ?_⟩
  · rcases List.mem_cons.1 hd with e | hd
    · rw [e]; exact w1
    · exact w2 ds hd
  · rw [List.foldl_cons]
    simp only [if_true]
    generalize hd : (decs its (l, 0)).1 = d at *
    generalize hds : (decL (decs its) n ((decs its (l, 0)).2.1, 0)).1 = ds at *
    have ha := lfold_app its ds (encs its d ([], 0)).1 (encs its d ([], 0)).2
    simp only at ha
    rw [show ((encs its d ([], 0)).1, (encs its d ([], 0)).2) = encs its d ([], 0) from rfl, c1] at ha
    rw [ha]
    refine ⟨c2, ?_⟩
    rw [List.append_assoc, ← l2, ← l1]
theorem inv_list {its : List It} (h : Invs its) : Inv' (.list its) := by
 intro l d r hh
 simp only [dec] at hh
 injection hh with h1 h2
 have hs : (rdC 1048576 (l, 0)).2.2 = 0 := decL_ok (its := its) (n := (rdC 1048576 (l, 0)).1) (by rw [h2])
 obtain ⟨c1, l1⟩ := rdC_inv (st_eta hs)
 have hs2 : (rdC 1048576 (l, 0)).2 = ((rdC 1048576 (l, 0)).2.1, 0) := rs_eta hs
 rw [hs2] at h1 h2
 obtain ⟨n2, w2, c2, l2⟩ := list_inv h _ _ _ _ (show decL (decs its) (rdC 1048576 (l, 0)).1 ((rdC 1048576 (l, 0)).2.1, 0) = ((decL (decs its) (rdC 1048576 (l, 0)).1 ((rdC 1048576 (l, 0)).2.1, 0)).1, r, 0) by rw [← h2])
 subst h1
 generalize hds : (decL (decs its) (rdC 1048576 (l, 0)).1 ((rdC 1048576 (l, 0)).2.1, 0)).1 = es at *
 refine ⟨.list (fun ds hd => (w2 ds hd).1) fun k ds j it d a b c => (w2 ds (List.mem_of_getElem? a)).2 j it d b c, ?_⟩
 simp only [enc]
 rw [if_neg (by omega)]
 have hw1 : ∀ n, wrN (beb 8 n) (([], 0) : PenS) = (beb 8 n, 0) := fun n => rfl
 have hA := lfold_app its es (beb 8 es.length) 0
 simp only at hA
 rw [hw1, hA]
 refine ⟨c2, ?_⟩
 simp only
 rw [List.append_assoc, ← l2, n2]
 exact l1
mutual
theorem inv_it : ∀ it : It, Inv' it
 | .num => by
  intro l d r h
  simp only [dec] at h
  injection h with h1 h2
  obtain ⟨c1, l1⟩ := rdN_inv (st_eta (x := rdN 8 (l, 0)) (by rw [h2]))
  rw [h2] at l1
  subst h1
  exact ⟨.num (by have e := p8; omega), rfl, by simpa [enc, wrN] using l1⟩
 | .kind => by
  intro l d r h
  simp only [dec] at h
  injection h with h1 h2
  obtain ⟨c1, l1⟩ := rdN_inv (st_eta (x := rdN 1 (l, 0)) (by rw [h2]))
  rw [h2] at l1
  subst h1
  exact ⟨.kind (by omega), rfl, by simpa [enc, wrN] using l1⟩
 | .int => by
  intro l d r h
  simp only [dec] at h
  injection h with h1 h2
  obtain ⟨c1, l1⟩ := rdN_inv (st_eta (x := rdN 8 (l, 0)) (by rw [h2]))
  rw [h2] at l1
  subst h1
  exact ⟨.int (i64_rng _).1 (i64_rng _).2, rfl, by
   simp only [enc, wrN, List.nil_append]
   rw [u64_i64 (by have e := p8; omega)]
   exact l1⟩
 | .is => by
  intro l d r h
  simp only [dec] at h
  injection h with h1 h2
  obtain ⟨c1, l1⟩ := rdC_inv (st_eta (x := rdC 1 (l, 0)) (by rw [h2]))
  rw [h2] at l1
  subst h1
  refine ⟨.is, rfl, ?_⟩
  simp only [enc, wrN, List.nil_append]
  have : (if decide ((rdC 1 (l, 0)).1 = 1) = true then 1 else 0) = (rdC 1 (l, 0)).1 := by
   by_cases h : (rdC 1 (l, 0)).1 = 1
   · simp [h]
   · simp [h]; omega
  rw [this]
  exact l1
 | .text => by
  intro l d r h
  simp only [dec] at h
  injection h with h1 h2
  obtain ⟨c1, l1⟩ := rdT_inv (st_eta (x := rdT (l, 0)) (by rw [h2]))
  rw [h2] at l1
  subst h1
  refine ⟨.text, ?_⟩
  simp only [enc, wr, if_true, List.nil_append, encText]
  rw [if_neg (by omega)]
  exact ⟨rfl, l1⟩
 | .nums => by
  intro l d r h
  simp only [dec] at h
  injection h with h1 h2
  obtain ⟨c1, c2, l1⟩ := rdW_inv (st_eta (x := rdW (l, 0)) (by rw [h2]))
  rw [h2] at l1
  subst h1
  refine ⟨.nums c2, ?_⟩
  simp only [enc, wr, if_true, List.nil_append, numOf_map, encNums]
  rw [if_neg (by omega)]
  exact ⟨rfl, l1⟩
 | .list its => inv_list (invs_of its (inv_its' its))
theorem inv_its' : ∀ (its : List It), ∀ it ∈ its, Inv' it
 | [] => fun x hx => nomatch hx
 | it :: its => fun x hx => by
  rcases List.mem_cons.1 hx with e | hx
  · rw [e]; exact inv_it it
  · exact inv_its' its x hx
end
end Go.Am
