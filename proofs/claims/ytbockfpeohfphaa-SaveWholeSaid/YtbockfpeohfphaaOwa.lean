/- AM: strings.Builder's check of copies and its text, by their contracts. -/
import Derived.Test.YtbockfpeohfphaaAmc
import Derived.Test.YtbockfpeohfphaaRda
import Derived.Test.YtbockfpeohfphaaRdc
import Derived.Test.YtbockfpeohfphaaRdb

namespace Go.Am
open Go.RowKit Go.MapKept Go.Proofs Go.Proofs.Bld
noncomputable def ovCC (args : List Value) (σ : St) (K : VK) : Bool :=
  match args with
  | [.pointer (some ⟨i, o, none⟩)] => cellsK σ i fun vs e ck => nthK vs o fun v => match v with
    | .pointer none => match ck with
      | .exact => lenK vs fun m => match liesAt Try.prog Try.prog.depth e (Nat.div m (Try.prog.cellsOf e)) o 64 1 with
        | true => writeK σ i o [.pointer (some ⟨i, o, none⟩)] fun σ => K (.tuple ⟨[]⟩) σ
        | false => false
      | _ => false
    | .pointer (some ⟨j, p, none⟩) => match Nat.beq i j, Nat.beq o p with
      | true, true => K (.tuple ⟨[]⟩) σ
      | _, _ => false
    | _ => false
  | _ => false
/-- bytes, each of which is one -/
noncomputable def bytes8K (l : List Value) (k : List UInt8 → Bool) : Bool :=
  lrec (β := (List UInt8 → Bool) → Bool) (fun k => k []) (fun v _ ih k => match v with
    | .int .u8 (.ofNat n) => match Nat.blt n 256 with
      | true => ih fun t => k (UInt8.ofNat n :: t)
      | false => false
    | _ => false) l k
theorem bytes8K_true : ∀ {l : List Value} {k : List UInt8 → Bool}, bytes8K l k = true → ∃ bs : List UInt8, k bs = true ∧ l = bs.map (fun b => .int .u8 (b.toNat : Int)) := by
  intro l
  induction l with
  | nil => intro k hk; exact ⟨[], hk, rfl⟩
  | cons v l ih =>
    intro k hk
    unfold bytes8K at hk
    rw [lrec_cons] at hk
    split at hk
    · rename_i n
      split at hk
      · rename_i hn
        have hn : n < 256 := Nat.le_of_ble_eq_true hn
        obtain ⟨bs, h1, h2⟩ := ih (k := fun t => k (UInt8.ofNat n :: t)) hk
        refine ⟨UInt8.ofNat n :: bs, h1, ?_⟩
        rw [List.map_cons, ← h2]
        have : (UInt8.ofNat n).toNat = n := by rw [UInt8.toNat_ofNat']; omega
        rw [this]; rfl
      · cases hk
    · cases hk
noncomputable def ovStr (args : List Value) (σ : St) (K : VK) : Bool :=
  match args with
  | [.pointer (some ⟨i, o, none⟩)] => cellsK σ i fun vs _ _ => nthK vs (Nat.succ o) fun v => match v with
    | .slice none 0 _ => K (.string ⟨⟨[]⟩⟩) σ
    | .slice (some ⟨j, p, some 0⟩) (n + 1) _ => getK σ.h j fun ob => match ob with
      | .cells ws e (.grown _) => match Nat.beq e 5, Nat.ble (n + 1) 9223372036854775807 with
        | true, true => dropK p ws fun l => takeK (Nat.succ n) l fun l => bytes8K l fun bs => setK σ j (.cells ws e .ro) fun σ => K (.string ⟨⟨bs⟩⟩) σ
        | _, _ => false
      | _ => false
    | _ => false
  | _ => false
section
variable {w0 : World} {ρ : Rn} {σ : St} {w : World}
theorem nthK_true' {l : List Value} {i : Nat} {k : Value → Bool} (h : nthK l i k = true) : ∃ v, l[i]? = some v ∧ k v = true := by
  rw [nthK_eq] at h
  split at h
  · rename_i v hv; exact ⟨v, hv, h⟩
  · cases h
theorem one_arg {a : Value} {args' : List Value} (h : VRs ρ [a] args') : ∃ a', args' = [a'] ∧ VR ρ a a' := by
  obtain ⟨a', t, rfl, h1, h2⟩ := h.inv_cons
  cases h2.inv_nil
  exact ⟨a', rfl, h1⟩
theorem sizeB1 : sizeT Try.prog 5 = some 1 := by kernel_rfl
theorem ovCC_ok : CallOk Try.prog w0 (fun f' args σ K => match Nat.beq f' 75 with | true => ovCC args σ K | false => false) := by
  intro f' args σ K ρ w args' hk h ha
  dsimp only at hk
  split at hk
  · rename_i hf'
    obtain rfl : f' = 75 := by simpa using hf'
    refine ⟨enters_of Try.func75 (by kernel_rfl) rfl ⟨args'⟩, ?_⟩
    unfold ovCC at hk
    split at hk
    · rename_i i o
      obtain ⟨a', rfl, hv⟩ := one_arg ha
      obtain ⟨_, L, hL, rfl⟩ := hv.ptr_inv
      obtain ⟨vs, e, ck, ho, hk⟩ := cellsK_true hk
      obtain ⟨v, hvo, hk⟩ := nthK_true' hk
      obtain ⟨cs, t, fz, hb, hcv, hkind⟩ := h.cells ho hL
      obtain ⟨v', hv', hvr⟩ := hcv o v hvo
      have hcell : w.cell? ⟨L.b, L.s + o, none⟩ = some v' := cell_of hb hv'
      split at hk
      · cases hvr.of_flat rfl
        split at hk
        · obtain ⟨g1, g2, g3, g4, g5⟩ := hkind
          rw [lenK_eq] at hk
          split at hk
          · rename_i hl
            obtain ⟨σ', w', hk, r1, r2, hrun⟩ := writeK_sound h hk hL (VRs.cons (VR.ptr (o := o) hL) (.nil ρ)) (by intro v hv; simp at hv; subst hv; rfl)
            have hsh : w.shape? L.b = some (e, cs.size) := by simp [World.shape?, hb, g5]
            have hoff : L.s + o < cs.size := (Array.getElem?_eq_some_iff.1 hv').1
            have hfz : w.frozen? ⟨L.b, L.s + o, none⟩ = false := by
              have := g4 (L.s + o) hoff
              simp only [World.frozen?, hb]
              simpa using this
            have hset : (storeCells ⟨L.b, L.s + o, none⟩ [.pointer (some ⟨L.b, L.s + o, none⟩)]).run Try.prog w = .ok () (w.setCell ⟨L.b, L.s + o, none⟩ (.pointer (some ⟨L.b, L.s + o, none⟩))) := by
              simp only [storeCells, add_none, Nat.add_zero]
              rw [Sem.run_bind, run_store Try.prog w _ _ .plain rfl, hcell, hfz]
              rfl
            rw [hset] at hrun
            injection hrun with _ hrun
            subst hrun
            refine callsIn_wide.2 ((cc_fresh L.b (L.s + o) e cs.size w hcell hsh hoff ?_ hfz).mono ?_)
            · rw [g2, Nat.zero_add, g3]; exact hl
            · rintro e w' ⟨rfl, rfl⟩
              exact ⟨_, rfl, ρ, .tuple ⟨[]⟩, σ', hk, .mk_tuple (.nil ρ), r1, r2⟩
          · cases hk
        · cases hk
      · rename_i j p
        split at hk
        · rename_i h1 h2
          have h1 := Nat.eq_of_beq_eq_true h1
          have h2 := Nat.eq_of_beq_eq_true h2
          subst h1 h2
          obtain ⟨_, M, hM, rfl⟩ := hvr.ptr_inv
          rw [hL] at hM; injection hM with hM; subst hM
          refine callsIn_wide.2 ((cc_used L.b (L.s + o) w hcell).mono ?_)
          rintro e w' ⟨rfl, rfl⟩
          exact ⟨_, rfl, ρ, .tuple ⟨[]⟩, σ, hk, .mk_tuple (.nil ρ), h, .refl ρ _⟩
        · cases hk
      · cases hk
    · cases hk
  · cases hk
/-- a row's cells are read by nobody who writes: it is frozen -/
theorem Rel.freeze {P : Program} (h : Rel P w0 ρ σ w) {j : Nat} {L : Loc} (hL : ρ j = some L) {ws : List Value} {e : TypeId} {olds : List Nat} (ho : σ.obj j = some (.cells ws e (.grown olds))) {cs : Array Value} {t : TypeId} {fz : Nat × Nat} (hb : w.heap[L.b]? = some (.cells cs t fz))
    {w' : World} {fz' : Nat × Nat} (hw' : w'.heap[L.b]? = some (.cells cs t fz')) (hsz : w'.heap.size = w.heap.size) (hother : ∀ c, c ≠ L.b → w'.heap[c]? = w.heap[c]?) (hos : w'.os = w.os) (htape : w'.tape = w.tape) (hout : w'.output = w.output) :
    Rel P w0 ρ (σ.set j (.cells ws e .ro)) w' ∧ Stp ρ w ρ w' := by
  obtain ⟨cs1, t1, fz1, hb1, hcv, hkind⟩ := h.cells ho hL
  rw [hb] at hb1; injection hb1 with hb1; injection hb1 with q1 q2 q3; subst q1 q2 q3
  obtain ⟨g1, g2, g3, g4, g5⟩ := hkind
  have hset : ∀ i x, (σ.set j (.cells ws e .ro)).obj i = some x → (i = j ∧ x = .cells ws e .ro) ∨ (i ≠ j ∧ σ.obj i = some x) := fun i x hx => by
    rw [obj_set] at hx
    split at hx
    · rename_i e1; injection hx with hx; exact .inl ⟨e1, hx.symm⟩
    · rename_i e1; exact .inr ⟨e1, hx⟩
  -- others of the same block are elder ones
  have others : ∀ i x M, i ≠ j → σ.obj i = some x → x.isDead = false → ρ i = some M → M.b = L.b → ∃ us u, x = .cells us u .stale := by
    intro i x M hij hx hd hM hMb
    rcases h.sep j i _ x L M (Ne.symm hij) ho hx rfl hd hL hM hMb.symm with ⟨k1, _⟩ | k1 | k1
    · cases k1
    · obtain ⟨_, k2⟩ := h.old j ws e olds ho i k1
      rcases k2 x hx with k3 | ⟨us, u, k3, _⟩
      · rw [k3] at hd; cases hd
      · exact ⟨us, u, k3⟩
    · cases x with
      | cells us u kk =>
        cases kk with
        | grown l =>
          obtain ⟨_, k2⟩ := h.old i us u l hx j k1
          rcases k2 _ ho with k3 | ⟨_, _, k3, _⟩
          · cases k3
          · injection k3 with _ _ k3; cases k3
        | _ => cases k1
      | _ => cases k1
  refine h.upd (b := L.b) g1 ⟨j, L, hL, rfl⟩ rfl hsz hother hos htape hout (fun i x hx => ?_) (fun i k x y M N hik hx hy hdx hdy hM hN hMN => ?_) (fun i us u l hi q hq => ?_)
  · rcases hset i x hx with ⟨rfl, rfl⟩ | ⟨hij, hx⟩
    · exact .inr (.inr ⟨h.lt _ _ ho, L, cs, t, fz', hL, hw', hcv, g4⟩)
    · cases hd : x.isDead with
      | true => exact .inl ⟨rfl, h.lt _ _ hx⟩
      | false =>
        obtain ⟨M, hM⟩ := (h.objs i x hx).loc hd
        by_cases hMb : M.b = L.b
        · obtain ⟨us, u, rfl⟩ := others i x M hij hx hd hM hMb
          obtain ⟨M', cs2, t2, fz2, k1, k2, k3, k4⟩ := h.objs i _ hx
          rw [hM] at k1; injection k1 with k1; subst k1
          rw [hMb, hb] at k2; injection k2 with k2; injection k2 with k2 k2a k2b; subst k2 k2a k2b
          exact .inr (.inr ⟨h.lt _ _ hx, M, cs, t, fz', hM, by rw [hMb]; exact hw', k3, k4⟩)
        · exact .inr (.inl ⟨hx, fun M' hM' => by rw [hM] at hM'; injection hM' with hM'; subst hM'; exact hMb⟩)
  · rcases hset i x hx with ⟨e1, e2⟩ | ⟨hij, hx1⟩ <;> rcases hset k y hy with ⟨f1, f2⟩ | ⟨hkj, hy1⟩
    · exact absurd (e1.trans f1.symm) hik
    · rw [e1, hL] at hM; injection hM with hM; subst hM
      obtain ⟨us, u, e3⟩ := others k y N hkj hy1 hdy hN hMN.symm
      rw [e2, e3]
      exact .inl ⟨rfl, rfl⟩
    · rw [f1, hL] at hN; injection hN with hN; subst hN
      obtain ⟨us, u, e3⟩ := others i x M hij hx1 hdx hM hMN
      rw [f2, e3]
      exact .inl ⟨rfl, rfl⟩
    · exact h.sep i k x y M N hik hx1 hy1 hdx hdy hM hN hMN
  · rcases hset i _ hi with ⟨_, k1⟩ | ⟨hij, hi⟩
    · injection k1 with _ _ k1; cases k1
    · obtain ⟨k1, k2⟩ := h.old i us u l hi q hq
      refine ⟨k1, fun x hx => ?_⟩
      rcases hset q x hx with ⟨rfl, rfl⟩ | ⟨_, hx⟩
      · rcases k2 _ ho with k3 | ⟨_, _, k3, _⟩
        · cases k3
        · injection k3 with _ _ k3; cases k3
      · exact k2 x hx
theorem ovStr_ok : CallOk Try.prog w0 (fun f' args σ K => match Nat.beq f' 15 with | true => ovStr args σ K | false => false) := by
  intro f' args σ K ρ w args' hk h ha
  dsimp only at hk
  split at hk
  · rename_i hf'
    obtain rfl : f' = 15 := by simpa using hf'
    refine ⟨enters_of Try.func15 (by kernel_rfl) rfl ⟨args'⟩, ?_⟩
    unfold ovStr at hk
    split at hk
    · rename_i i o
      obtain ⟨a', rfl, hv⟩ := one_arg ha
      obtain ⟨_, L, hL, rfl⟩ := hv.ptr_inv
      obtain ⟨vs, e, ck, ho, hk⟩ := cellsK_true hk
      obtain ⟨v, hvo, hk⟩ := nthK_true' hk
      obtain ⟨v', hv', hvr⟩ := h.readCell ho hL hvo
      have hv1 : w.cell? ⟨L.b, L.s + o + 1, none⟩ = some v' := hv'
      split at hk
      · cases hvr.of_flat rfl
        refine callsIn_wide.2 ((str_nil L.b (L.s + o) _ w hv1).mono ?_)
        rintro e w' ⟨rfl, rfl⟩
        exact ⟨_, rfl, ρ, _, σ, hk, .flat rfl, h.drew, Stp.drew ρ _⟩
      · rename_i j p n c
        obtain ⟨ob, hob, hk⟩ := getK_true hk
        split at hk
        · rename_i ws e2 olds
          split at hk
          · rename_i he hn63
            have he := Nat.eq_of_beq_eq_true he
            subst he
            have hn63 := Nat.le_of_ble_eq_true hn63
            rcases hvr.slice_inv with ⟨M, c', hM, rfl, ⟨hsp, _⟩ | ⟨_, hcc, hnc, hend, hmp⟩⟩ | ⟨⟨_, hsp⟩, _⟩
            · cases hsp
            · have hob' : σ.obj j = some (.cells ws 5 (.grown olds)) := hob
              rw [dropK_eq] at hk
              split at hk
              · rename_i hple
                rw [takeK_eq] at hk
                split at hk
                · rename_i htl
                  obtain ⟨bs, hk, hbs⟩ := bytes8K_true hk
                  rw [setK_eq] at hk
                  obtain ⟨l', hl', hlen, hc⟩ := h.readCells (off := p) (n := n + 1) hob' hM (by simp at htl; omega)
                  have e0 : List.take (n + 1) (List.drop p ws) = bs.map (fun b : UInt8 => Value.int .u8 (b.toNat : Int)) := hbs
                  rw [e0] at hl'
                  have hl'' := hl'.flat_eq (by simp [flat0])
                  obtain ⟨cs, t, fz, hb, hcv, g1, g2, g3, g4, g5⟩ := h.cells hob' hM
                  subst g5
                  have hM1 : M.m = 1 := by rw [sizeB1] at g4; injection g4 with g4; exact g4.symm
                  have hsh : w.shape? M.b = some (5, cs.size) := by simp [World.shape?, hb]
                  have hnl : bs.length = n + 1 := by
                    have := congrArg List.length e0
                    simp at this htl
                    omega
                  rw [hM1] at hend
                  have := str_some L.b (L.s + o) M.b (M.s + p) c' cs.size bs w (by rw [hnl]; exact hv1) (by intro h0; rw [h0] at hnl; simp at hnl) (by omega) hsh (by rw [hnl, ← g3, ← hend]; omega) (by rw [hnl]; exact hn63)
                    (fun q x hq => hc q _ (by rw [hl'']; simp [hq]))
                  refine callsIn_wide.2 (this.mono ?_)
                  rintro e w' ⟨rfl, rfl⟩
                  have hfr : (w.drew.freeze ⟨M.b, M.s + p, none⟩ bs.length).heap = w.heap.modify M.b fun
                      | .cells c elem (lo, hi) => .cells c elem (if lo == hi then (M.s + p, M.s + p + bs.length) else (min lo (M.s + p), max hi (M.s + p + bs.length)))
                      | o => o := by
                    unfold World.freeze
                    rw [if_neg (by omega)]
                    rfl
                  obtain ⟨r1, r2⟩ := h.freeze hM hob' hb (w' := w.drew.freeze ⟨M.b, M.s + p, none⟩ bs.length) (fz' := if fz.1 == fz.2 then (M.s + p, M.s + p + bs.length) else (min fz.1 (M.s + p), max fz.2 (M.s + p + bs.length)))
                    (by rw [hfr, Array.getElem?_modify, if_pos rfl, hb]; rfl) (by rw [hfr]; simp) (fun c hc => by rw [hfr, Array.getElem?_modify, if_neg (Ne.symm hc)])
                    (by unfold World.freeze; split <;> rfl) (by unfold World.freeze; split <;> rfl) (by unfold World.freeze; split <;> rfl)
                  exact ⟨_, rfl, ρ, _, _, hk, .flat rfl, r1, r2⟩
                · cases hk
              · cases hk
            · cases hsp
          · cases hk
        · cases hk
      · cases hk
    · cases hk
  · cases hk
end
end Go.Am

namespace Go.Am
open Go.RowKit Go.MapKept Go.Proofs Go.Proofs.Rdr
/-- what is read off bytes, or what is thrown -/
abbrev Parse := List UInt8 → Nat → (Value → List UInt8 → Bool) → (Int → Bool) → Bool
noncomputable def beK (l : List UInt8) (k : Nat → Bool) : Bool := lrec (β := Nat → Bool) k (fun b _ ih a => forceN (Nat.add (Nat.mul a 256) b.toNat) ih) l 0
theorem beK_eq (l : List UInt8) (k : Nat → Bool) : beK l k = k (be l) := by
  have : ∀ (l : List UInt8) (a : Nat), lrec (β := Nat → Bool) k (fun b _ ih a => forceN (Nat.add (Nat.mul a 256) b.toNat) ih) l a = k (l.foldl (fun a b => a * 256 + b.toNat) a) := by
    intro l
    induction l with
    | nil => intro a; rfl
    | cons b l ih => intro a; rw [lrec_cons, forceN_eq, ih]; rfl
  exact this l 0
noncomputable def numP : Parse := fun l n ok no => match Nat.ble 8 n with
  | true => takeK 8 l fun h => dropK 8 l fun t => beK h fun x => ok (.int .u64 (.ofNat x)) t
  | false => no (.ofNat 8)
noncomputable def byteP : Parse := fun l n ok no => match Nat.ble 1 n with
  | true => takeK 1 l fun h => dropK 1 l fun t => beK h fun x => ok (.int .u8 (.ofNat x)) t
  | false => no (.ofNat 8)
noncomputable def countP (most : Nat) : Parse := fun l n ok no => match Nat.ble 8 n with
  | true => takeK 8 l fun h => dropK 8 l fun t => beK h fun x => match Nat.ble x most with
    | true => ok (.int .i64 (.ofNat x)) t
    | false => no (.ofNat 4)
  | false => no (.ofNat 8)
noncomputable def textP : Parse := fun l n ok no => match Nat.ble 2 n with
  | true => takeK 2 l fun h => dropK 2 l fun t => beK h fun x => match Nat.ble x 2048 with
    | true => lenK t fun m => match Nat.ble x m with
      | true => takeK x t fun a => dropK x t fun r => ok (.string ⟨⟨a⟩⟩) r
      | false => no (.ofNat 8)
    | false => no (.ofNat 40)
  | false => no (.ofNat 8)
noncomputable def endP : Parse := fun l _ ok no => match l with
  | [] => ok (.bool true) []
  | _ :: _ => no (.ofNat 10)
noncomputable def rdK (zero : Value) (parse : Parse) (σ : St) (p : Value) (K : VK) : Bool :=
  match p with
  | .pointer none => K (.tuple ⟨[zero, .int .i64 (.ofNat 2)]⟩) σ
  | .pointer (some ⟨i, o, none⟩) => cellsK σ i fun vs _ ck => match ck with
    | .exact => nthK vs o fun a => nthK vs (Nat.succ o) fun b => match a, b with
      | .string s, .int .i64 e => match eqI e 0 with
        | true => lenK s.data.toList fun n => match Nat.blt n 9223372036854775808 with
          | true => parse s.data.toList n (fun v rest => writeK σ i o [.string ⟨⟨rest⟩⟩] fun σ => K (.tuple ⟨[v, .int .i64 (.ofNat 0)]⟩) σ) (fun er => writeK σ i o [.string ⟨⟨[]⟩⟩, .int .i64 er] fun σ => K (.tuple ⟨[zero, .int .i64 er]⟩) σ)
          | false => false
        | false => K (.tuple ⟨[zero, .int .i64 e]⟩) σ
      | _, _ => false
    | _ => false
  | _ => false
section
variable {w0 : World} {ρ : Rn} {σ : St} {w : World}
/-- what is known where the thing is read -/
def PSpec (parse : Parse) (h : FuncId) (cap : Array Value) (T : Value → Prop) (w : World) : Prop := ∀ (s : ByteArray) (ok : Value → List UInt8 → Bool) (no : Int → Bool), s.size < 9223372036854775808 → parse s.data.toList s.size ok no = true →
  (∃ (v : Value) (rest : ByteArray), ok v rest.data.toList = true ∧ T v ∧ flat0 v = true ∧ HowOk h cap s rest v w) ∨ ∃ er, no er = true ∧ HowLack h cap s er w
structure RSpec (rd h : FuncId) (cap : Array Value) (zero : Value) (T : Value → Prop) : Prop where
  ok : ∀ (rb ro : Nat) (s rest : ByteArray) (v : Value) (w : World), T v → rb < w.heap.size → w.cell? ⟨rb, ro, none⟩ = some (.string s) → w.cell? ⟨rb, ro + 1, none⟩ = some (.int .i64 0) → w.frozen? ⟨rb, ro, none⟩ = false → HowOk h cap s rest v w →
    Calls Try.prog rd #[.pointer (some ⟨rb, ro, none⟩), .func (.func h) #[] cap] w (ReadPost rb ro rest v w)
  lack : ∀ (rb ro : Nat) (s : ByteArray) (er : Int) (w : World), rb < w.heap.size → w.cell? ⟨rb, ro, none⟩ = some (.string s) → w.cell? ⟨rb, ro + 1, none⟩ = some (.int .i64 0) → w.frozen? ⟨rb, ro, none⟩ = false → w.frozen? ⟨rb, ro + 1, none⟩ = false → HowLack h cap s er w →
    Calls Try.prog rd #[.pointer (some ⟨rb, ro, none⟩), .func (.func h) #[] cap] w (LackPost rb ro er zero w)
  wrong : ∀ (rb ro : Nat) (er : Int) (w : World), rb < w.heap.size → w.cell? ⟨rb, ro + 1, none⟩ = some (.int .i64 er) → er ≠ 0 →
    Calls Try.prog rd #[.pointer (some ⟨rb, ro, none⟩), .func (.func h) #[] cap] w fun r w' => r = .returned (.tuple #[zero, .int .i64 er]) ∧ Below w.heap.size w w'
  nil : ∀ (w : World), Calls Try.prog rd #[.pointer none, .func (.func h) #[] cap] w fun r w' => r = .returned (.tuple #[zero, .int .i64 2]) ∧ Below w.heap.size w w'
theorem tup2 {a b : Value} (ha : flat0 a = true) (hb : flat0 b = true) : VR ρ (.tuple ⟨[a, b]⟩) (.tuple #[a, b]) := .mk_tuple (VRs.cons (.flat ha) (VRs.cons (.flat hb) (.nil ρ)))
theorem frozen_exact {cs : Array Value} {t : TypeId} {fz : Nat × Nat} {b j : Nat} (hb : w.heap[b]? = some (.cells cs t fz)) (hth : Thawed cs.size fz) (hj : j < cs.size) : w.frozen? ⟨b, j, none⟩ = false := by
  have := hth j hj
  simp only [World.frozen?, hb]
  simpa using this
theorem rd_sound {rd h : FuncId} {cap : Array Value} {zero : Value} {T : Value → Prop} {parse : Parse} (R : RSpec rd h cap zero T) (hz : flat0 zero = true) (hrel : Rel Try.prog w0 ρ σ w) (hp : PSpec parse h cap T w) {p p' : Value} (hv : VR ρ p p') {K : VK} (hk : rdK zero parse σ p K = true) :
    Calls Try.prog rd #[p', .func (.func h) #[] cap] w (Back Try.prog w0 ρ w K) := by
  unfold rdK at hk
  split at hk
  · cases hv.of_flat rfl
    refine (R.nil w).mono ?_
    rintro e w' ⟨rfl, hb⟩
    obtain ⟨r1, r2⟩ := hrel.below hb
    exact ⟨_, rfl, ρ, _, σ, hk, tup2 hz rfl, r1, r2⟩
  · rename_i i o
    obtain ⟨_, L, hL, rfl⟩ := hv.ptr_inv
    obtain ⟨vs, e, ck, ho, hk⟩ := cellsK_true hk
    split at hk
    · obtain ⟨a, hao, hk⟩ := nthK_true' hk
      obtain ⟨b, hbo, hk⟩ := nthK_true' hk
      obtain ⟨cs, t, fz, hb, hcv, g1, g2, g3, g4, g5⟩ := hrel.cells ho hL
      obtain ⟨a', ha', har⟩ := hcv o a hao
      obtain ⟨b', hb', hbr⟩ := hcv (o + 1) b hbo
      have hlt : L.b < w.heap.size := hrel.loc i L hL
      have c0 : w.cell? ⟨L.b, L.s + o, none⟩ = some a' := cell_of hb ha'
      have c1 : w.cell? ⟨L.b, L.s + o + 1, none⟩ = some b' := cell_of hb hb'
      have f0 : w.frozen? ⟨L.b, L.s + o, none⟩ = false := frozen_exact hb g4 (Array.getElem?_eq_some_iff.1 ha').1
      have f1 : w.frozen? ⟨L.b, L.s + o + 1, none⟩ = false := frozen_exact hb g4 (Array.getElem?_eq_some_iff.1 hb').1
      have key : ∃ s er, a = .string s ∧ b = .int .i64 er := by
        revert hk
        cases a <;> cases b <;> first | (intro hk; cases hk; done) | skip
        rename_i s k er
        cases k <;> first | (intro hk; cases hk; done) | (intro _; exact ⟨_, _, rfl, rfl⟩)
      obtain ⟨s, er, rfl, rfl⟩ := key
      · cases har.of_flat rfl
        cases hbr.of_flat rfl
        dsimp only at hk
        split at hk
        · rename_i he
          rw [eqI_eq] at he
          have he := eq_of_beq he
          subst he
          rw [lenK_eq] at hk
          split at hk
          · rename_i hn
            have hn : s.size < 9223372036854775808 := Nat.le_of_ble_eq_true hn
            rcases hp s _ _ hn hk with ⟨v, rest, hk, hT, hfl, H⟩ | ⟨er, hk, H⟩
            · obtain ⟨σ', w1, hk, r1, r2, hrun⟩ := writeK_sound hrel hk hL (VRs.cons (.flat (v := .string rest) rfl) (.nil ρ)) (by intro v hv; simp at hv; subst hv; rfl)
              have hset : (storeCells ⟨L.b, L.s + o, none⟩ [.string rest]).run Try.prog w = .ok () (w.setCell ⟨L.b, L.s + o, none⟩ (.string rest)) := by
                simp only [storeCells, add_none, Nat.add_zero]
                rw [Sem.run_bind, run_store Try.prog w _ _ .plain rfl, c0, f0]
                rfl
              rw [hset] at hrun
              injection hrun with _ hrun
              subst hrun
              refine (R.ok L.b (L.s + o) s rest v w hT hlt c0 c1 f0 H).mono ?_
              rintro e w' ⟨rfl, hbl⟩
              obtain ⟨q1, q2⟩ := r1.below (w' := w') (hbl.mono (by simp [World.setCell]))
              exact ⟨_, rfl, ρ, _, σ', hk, tup2 hfl rfl, q1, r2.trans q2⟩
            · obtain ⟨σ', w1, hk, r1, r2, hrun⟩ := writeK_sound hrel hk hL (VRs.cons (.flat (v := .string ⟨#[]⟩) rfl) (VRs.cons (.flat (v := .int .i64 er) rfl) (.nil ρ))) (by intro v hv; simp at hv; rcases hv with rfl | rfl <;> rfl)
              have hset : (storeCells ⟨L.b, L.s + o, none⟩ [.string ⟨#[]⟩, .int .i64 er]).run Try.prog w = .ok () ((w.setCell ⟨L.b, L.s + o, none⟩ (.string ⟨#[]⟩)).setCell ⟨L.b, L.s + o + 1, none⟩ (.int .i64 er)) := by
                have d1 : (w.setCell ⟨L.b, L.s + o, none⟩ (.string ⟨#[]⟩)).cell? ⟨L.b, L.s + o + 1, none⟩ = some (.int .i64 0) := by
                  rw [World.cell?_setCell_other _ _ _ _ (by intro e; injection e with _ e; omega)]; exact c1
                have d2 : (w.setCell ⟨L.b, L.s + o, none⟩ (.string ⟨#[]⟩)).frozen? ⟨L.b, L.s + o + 1, none⟩ = false := by rw [World.frozen?_setCell]; exact f1
                simp only [storeCells, add_none, Nat.add_zero]
                rw [Sem.run_bind, run_store Try.prog w _ _ .plain rfl, c0, f0]
                simp only [Result.andThen]
                simp only [Bool.false_eq_true, if_false, Nat.zero_add]
                rw [Sem.run_bind, run_store Try.prog _ _ _ .plain rfl, Nat.add_assoc] at *
                rw [d1, d2]
                rfl
              rw [hset] at hrun
              injection hrun with _ hrun
              subst hrun
              refine (R.lack L.b (L.s + o) s er w hlt c0 c1 f0 f1 H).mono ?_
              rintro e w' ⟨rfl, hbl⟩
              obtain ⟨q1, q2⟩ := r1.below (w' := w') (hbl.mono (by simp [World.setCell]))
              exact ⟨_, rfl, ρ, _, σ', hk, tup2 hz rfl, q1, r2.trans q2⟩
          · cases hk
        · rename_i he
          have he : er ≠ 0 := by
            intro e; subst e
            exact absurd he (by decide)
          refine (R.wrong L.b (L.s + o) er w hlt c1 he).mono ?_
          rintro e w' ⟨rfl, hbl⟩
          obtain ⟨q1, q2⟩ := hrel.below hbl
          exact ⟨_, rfl, ρ, _, σ, hk, tup2 hz rfl, q1, q2⟩
    · cases hk
  · cases hk
end
end Go.Am

namespace Go.Am
open Go.RowKit Go.MapKept Go.Proofs Go.Proofs.Rdr
theorem ext_drop (s : ByteArray) (n : Nat) : (s.extract n s.size).data.toList = s.data.toList.drop n := by
  rw [ByteArray.data_extract, Array.toList_extract]
  unfold List.extract
  exact List.take_of_length_le (by rw [List.length_drop]; exact Nat.le_refl _)
theorem rspec64 {h : FuncId} {cap : Array Value} (he : ∀ args w, (callFunc h args).run Try.prog w = .ok (.enter h args) w) : RSpec 99 h cap (.int .u64 0) (fun v => ∃ x, v = .int .u64 x) :=
  ⟨fun rb ro s rest v w ⟨x, hx⟩ a1 a2 a3 a4 H => by subst hx; exact read64_ok rb ro h cap s rest x w a1 a2 a3 a4 he H, fun rb ro s er w a1 a2 a3 a4 a5 H => read64_lack rb ro h cap s er w a1 a2 a3 a4 a5 he H, fun rb ro er w a1 a2 a3 => read64_wrong rb ro _ er w a1 a2 a3, fun w => read64_nil _ w⟩
theorem rspec8 {h : FuncId} {cap : Array Value} (he : ∀ args w, (callFunc h args).run Try.prog w = .ok (.enter h args) w) : RSpec 97 h cap (.int .u8 0) (fun v => ∃ x, v = .int .u8 x) :=
  ⟨fun rb ro s rest v w ⟨x, hx⟩ a1 a2 a3 a4 H => by subst hx; exact read8_ok rb ro h cap s rest x w a1 a2 a3 a4 he H, fun rb ro s er w a1 a2 a3 a4 a5 H => read8_lack rb ro h cap s er w a1 a2 a3 a4 a5 he H, fun rb ro er w a1 a2 a3 => read8_wrong rb ro _ er w a1 a2 a3, fun w => read8_nil _ w⟩
theorem rspecN {h : FuncId} {cap : Array Value} (he : ∀ args w, (callFunc h args).run Try.prog w = .ok (.enter h args) w) : RSpec 94 h cap (.int .i64 0) (fun v => ∃ x, v = .int .i64 x) :=
  ⟨fun rb ro s rest v w ⟨x, hx⟩ a1 a2 a3 a4 H => by subst hx; exact readN_ok rb ro h cap s rest x w a1 a2 a3 a4 he H, fun rb ro s er w a1 a2 a3 a4 a5 H => readN_lack rb ro h cap s er w a1 a2 a3 a4 a5 he H, fun rb ro er w a1 a2 a3 => readN_wrong rb ro _ er w a1 a2 a3, fun w => readN_nil _ w⟩
theorem rspecS {h : FuncId} {cap : Array Value} (he : ∀ args w, (callFunc h args).run Try.prog w = .ok (.enter h args) w) : RSpec 104 h cap (.string ⟨#[]⟩) (fun v => ∃ x, v = .string x) :=
  ⟨fun rb ro s rest v w ⟨x, hx⟩ a1 a2 a3 a4 H => by subst hx; exact readS_ok rb ro h cap s rest x w a1 a2 a3 a4 he H, fun rb ro s er w a1 a2 a3 a4 a5 H => readS_lack rb ro h cap s er w a1 a2 a3 a4 a5 he H, fun rb ro er w a1 a2 a3 => readS_wrong rb ro _ er w a1 a2 a3, fun w => readS_nil _ w⟩
theorem rspecB {h : FuncId} {cap : Array Value} (he : ∀ args w, (callFunc h args).run Try.prog w = .ok (.enter h args) w) : RSpec 32 h cap (.bool false) (fun v => ∃ x, v = .bool x) :=
  ⟨fun rb ro s rest v w ⟨x, hx⟩ a1 a2 a3 a4 H => by subst hx; exact readB_ok rb ro h cap s rest x w a1 a2 a3 a4 he H, fun rb ro s er w a1 a2 a3 a4 a5 H => readB_lack rb ro h cap s er w a1 a2 a3 a4 a5 he H, fun rb ro er w a1 a2 a3 => readB_wrong rb ro _ er w a1 a2 a3, fun w => readB_nil _ w⟩
section
variable {w : World}
theorem num_spec : PSpec numP 100 #[] (fun v => ∃ x, v = .int .u64 x) w := by
  intro s ok no hs hk
  unfold numP at hk
  split at hk
  · rename_i hn
    have hn := Nat.le_of_ble_eq_true hn
    have hl : 8 ≤ s.data.toList.length := hn
    rw [takeK_eq, if_pos hl, dropK_eq, if_pos hl, beK_eq] at hk
    exact .inl ⟨_, s.extract 8 s.size, by rw [ext_drop]; exact hk, ⟨_, rfl⟩, rfl, how_num s w hn hs⟩
  · rename_i hn
    exact .inr ⟨8, hk, how_num_no s w (by have := Nat.not_le_of_not_ble_eq_true (by rw [hn]; decide); omega)⟩
theorem byte_spec : PSpec byteP 98 #[] (fun v => ∃ x, v = .int .u8 x) w := by
  intro s ok no hs hk
  unfold byteP at hk
  split at hk
  · rename_i hn
    have hn := Nat.le_of_ble_eq_true hn
    have hl : 1 ≤ s.data.toList.length := hn
    rw [takeK_eq, if_pos hl, dropK_eq, if_pos hl, beK_eq] at hk
    exact .inl ⟨_, s.extract 1 s.size, by rw [ext_drop]; exact hk, ⟨_, rfl⟩, rfl, how_byte s w hn hs⟩
  · rename_i hn
    exact .inr ⟨8, hk, how_byte_no s w (by have := Nat.not_le_of_not_ble_eq_true (by rw [hn]; decide); omega)⟩
theorem count_spec {mb most : Nat} (hm : w.cell? ⟨mb, 0, none⟩ = some (.int .i64 most)) (hmb : mb < w.heap.size) (hmost : most < 9223372036854775808) : PSpec (countP most) 95 #[.pointer (some ⟨mb, 0, none⟩)] (fun v => ∃ x, v = .int .i64 x) w := by
  intro s ok no hs hk
  unfold countP at hk
  split at hk
  · rename_i hn
    have hn := Nat.le_of_ble_eq_true hn
    have hl : 8 ≤ s.data.toList.length := hn
    rw [takeK_eq, if_pos hl, dropK_eq, if_pos hl, beK_eq] at hk
    · · split at hk
        · rename_i hle
          exact .inl ⟨_, s.extract 8 s.size, by rw [ext_drop]; exact hk, ⟨_, rfl⟩, rfl, how_count mb most s w hm hmb hmost hn hs (Nat.le_of_ble_eq_true hle)⟩
        · rename_i hle
          exact .inr ⟨4, hk, how_count_large mb most s w hm hmb hmost hn hs (by have := Nat.not_le_of_not_ble_eq_true (by rw [hle]; decide); omega)⟩
  · rename_i hn
    exact .inr ⟨8, hk, how_count_no mb s w (by have := Nat.not_le_of_not_ble_eq_true (by rw [hn]; decide); omega)⟩
theorem text_spec : PSpec textP 105 #[] (fun v => ∃ x, v = .string x) w := by
  intro s ok no hs hk
  unfold textP at hk
  split at hk
  · rename_i hn
    have hn := Nat.le_of_ble_eq_true hn
    have hl : 2 ≤ s.data.toList.length := hn
    rw [takeK_eq, if_pos hl, dropK_eq, if_pos hl, beK_eq] at hk
    · · have e1 := ext_drop s 2
        have hsz1 : (s.extract 2 s.size).size = (s.data.toList.drop 2).length := by rw [← e1]; rfl
        split at hk
        · rename_i hle
          have hle := Nat.le_of_ble_eq_true hle
          rw [lenK_eq] at hk
          split at hk
          · rename_i hle2
            have hle2 := Nat.le_of_ble_eq_true hle2
            rw [takeK_eq, if_pos hle2, dropK_eq, if_pos hle2] at hk
            · refine .inl ⟨.string ((s.extract 2 s.size).extract 0 (be (s.data.toList.take 2))), (s.extract 2 s.size).extract (be (s.data.toList.take 2)) (s.extract 2 s.size).size, ?_, ⟨_, rfl⟩, rfl, how_text s _ _ w rfl rfl hle hn hs (by rw [hsz1]; exact hle2)⟩
              have e2 : (s.extract 2 s.size).extract 0 (be (s.data.toList.take 2)) = (⟨⟨List.take (be (List.take 2 s.data.toList)) (List.drop 2 s.data.toList)⟩⟩ : ByteArray) := by
                apply ByteArray.ext; apply Array.toList_inj.1
                rw [ext_take, e1]
              rw [e2, ext_drop, e1]
              exact hk
          · rename_i hle2
            exact .inr ⟨8, hk, how_text_cut s _ _ w rfl rfl hle hn hs (by rw [hsz1]; have := Nat.not_le_of_not_ble_eq_true (by rw [hle2]; decide); omega)⟩
        · rename_i hle
          exact .inr ⟨40, hk, how_text_large s w hn hs (by have := Nat.not_le_of_not_ble_eq_true (by rw [hle]; decide); omega)⟩
  · rename_i hn
    exact .inr ⟨8, hk, how_text_short s w (by have := Nat.not_le_of_not_ble_eq_true (by rw [hn]; decide); omega)⟩
theorem end_spec : PSpec endP 33 #[] (fun v => ∃ x, v = .bool x) w := by
  intro s ok no hs hk
  unfold endP at hk
  split at hk
  · rename_i hl
    have e : s = ⟨#[]⟩ := by apply ByteArray.ext; apply Array.toList_inj.1; exact hl
    subst e
    exact .inl ⟨.bool true, ⟨#[]⟩, hk, ⟨_, rfl⟩, rfl, how_end w⟩
  · rename_i b t hl
    exact .inr ⟨10, hk, how_end_no s w (by rw [ba_toList, hl]; rfl)⟩
end
end Go.Am

namespace Go.Am
open Go.RowKit Go.MapKept Go.Proofs Go.Proofs.Rdr
/-- a reading function, whose way of reading one is a function of its own -/
noncomputable def ovRd (h : FuncId) (zero : Value) (parse : Parse) (args : List Value) (σ : St) (K : VK) : Bool :=
  match args with
  | [p, .func (.func g) ⟨[]⟩ ⟨[]⟩] => match Nat.beq g h with
    | true => rdK zero parse σ p K
    | false => false
  | _ => false
noncomputable def ovCnt (args : List Value) (σ : St) (K : VK) : Bool :=
  match args with
  | [p, .func (.func g) ⟨[]⟩ ⟨[.pointer (some ⟨m, o, none⟩)]⟩] => match Nat.beq g 95 with
    | true => cellsK σ m fun vs _ ck => match ck, o with
      | .exact, 0 => nthK vs 0 fun v => match v with
        | .int .i64 (.ofNat most) => match Nat.blt most 9223372036854775808 with
          | true => rdK (.int .i64 (.ofNat 0)) (countP most) σ p K
          | false => false
        | _ => false
      | _, _ => false
    | false => false
  | _ => false
section
variable {w0 : World} {ρ : Rn} {σ : St} {w : World}
theorem two_args {a b : Value} {args' : List Value} (h : VRs ρ [a, b] args') : ∃ a' b', args' = [a', b'] ∧ VR ρ a a' ∧ VR ρ b b' := by
  obtain ⟨a', t, rfl, h1, h2⟩ := h.inv_cons
  obtain ⟨b', rfl, h3⟩ := one_arg h2
  exact ⟨a', b', rfl, h1, h3⟩
theorem ovRd_ok {rd h : FuncId} {zero : Value} {T : Value → Prop} {parse : Parse} (hrd : ∀ args w, (callFunc rd args).run Try.prog w = .ok (.enter rd args) w) (R : RSpec rd h #[] zero T) (hz : flat0 zero = true) (hp : ∀ w, PSpec parse h #[] T w) :
    CallOk Try.prog w0 (fun f' args σ K => match Nat.beq f' rd with | true => ovRd h zero parse args σ K | false => false) := by
  intro f' args σ K ρ w args' hk hr ha
  dsimp only at hk
  split at hk
  · rename_i hf'
    obtain rfl : f' = rd := by simpa using hf'
    refine ⟨hrd ⟨args'⟩, ?_⟩
    unfold ovRd at hk
    split at hk
    · rename_i p g
      obtain ⟨p', fv, rfl, hv, hf⟩ := two_args ha
      cases hf.func0
      split at hk
      · rename_i hg
        have hg := Nat.eq_of_beq_eq_true hg
        subst hg
        exact callsIn_wide.2 (rd_sound R hz hr (hp w) hv hk)
      · cases hk
    · cases hk
  · cases hk
theorem ovCnt_ok : CallOk Try.prog w0 (fun f' args σ K => match Nat.beq f' 94 with | true => ovCnt args σ K | false => false) := by
  intro f' args σ K ρ w args' hk hr ha
  dsimp only at hk
  split at hk
  · rename_i hf'
    obtain rfl : f' = 94 := by simpa using hf'
    refine ⟨enters_of Try.func94 (by kernel_rfl) rfl ⟨args'⟩, ?_⟩
    unfold ovCnt at hk
    split at hk
    · rename_i p g m o
      obtain ⟨p', fv, rfl, hv, hf⟩ := two_args ha
      obtain ⟨L, hL, rfl⟩ := hf.func1
      split at hk
      · rename_i hg
        have hg := Nat.eq_of_beq_eq_true hg
        subst hg
        obtain ⟨vs, e, ck, ho, hk⟩ := cellsK_true hk
        split at hk
        · obtain ⟨v, hvo, hk⟩ := nthK_true' hk
          split at hk
          · rename_i most
            split at hk
            · rename_i hm
              have hm := Nat.le_of_ble_eq_true hm
              obtain ⟨cs, t, fz, hb, hcv, g1, g2, g3, g4, g5⟩ := hr.cells ho hL
              obtain ⟨v', hv', hvr⟩ := hcv 0 _ hvo
              cases hvr.of_flat rfl
              rw [g2] at hv' ⊢
              have hc : w.cell? ⟨L.b, 0, none⟩ = some (.int .i64 (most : Nat)) := by
                have := cell_of hb hv'
                exact this
              exact callsIn_wide.2 (rd_sound (rspecN (enters_of Try.func95 (by kernel_rfl) rfl)) rfl hr (count_spec hc (hr.loc m L hL) hm) hv hk)
            · cases hk
          · cases hk
        · cases hk
      · cases hk
    · cases hk
  · cases hk
end
end Go.Am

namespace Go.Am
open Go.RowKit Go.MapKept Go.Proofs Go.Proofs.Rdr
/-- so many numbers off bytes -/
noncomputable def wdsK (n : Nat) : List UInt8 → (List Value → List UInt8 → Bool) → Bool :=
  Nat.rec (motive := fun _ => List UInt8 → (List Value → List UInt8 → Bool) → Bool) (fun l k => k [] l) (fun _ ih l k => takeK 8 l fun h => dropK 8 l fun t => beK h fun x => ih t fun vs rest => k (.int .u64 (.ofNat x) :: vs) rest) n
noncomputable def listK (l : List UInt8) (n : Nat) (ok : List Value → List UInt8 → Bool) (no : Int → Bool) : Bool := match Nat.ble 2 n with
  | true => takeK 2 l fun h => dropK 2 l fun t => beK h fun x => match Nat.ble x 1024 with
    | true => lenK t fun m => match Nat.ble (Nat.mul x 8) m with
      | true => wdsK x t ok
      | false => no (.ofNat 8)
    | false => no (.ofNat 40)
  | false => no (.ofNat 8)
noncomputable def rowK (vs : List Value) (σ : St) (K : VK) : Bool := lenK vs fun n => match n with
  | 0 => K (.tuple ⟨[.slice none 0 0, .int .i64 (.ofNat 0)]⟩) σ
  | n + 1 => newK σ (.cells vs 56 (.grown [])) fun j σ => K (.tuple ⟨[.slice (some ⟨j, 0, some 0⟩) (Nat.succ n) (Nat.succ n), .int .i64 (.ofNat 0)]⟩) σ
noncomputable def rdLK (σ : St) (p : Value) (K : VK) : Bool :=
  match p with
  | .pointer none => K (.tuple ⟨[(.slice none 0 0), .int .i64 (.ofNat 2)]⟩) σ
  | .pointer (some ⟨i, o, none⟩) => cellsK σ i fun vs _ ck => match ck with
    | .exact => nthK vs o fun a => nthK vs (Nat.succ o) fun b => match a, b with
      | .string s, .int .i64 e => match eqI e 0 with
        | true => lenK s.data.toList fun n => match Nat.blt n 9223372036854775808 with
          | true => listK s.data.toList n (fun vs rest => writeK σ i o [.string ⟨⟨rest⟩⟩] fun σ => rowK vs σ K) (fun er => writeK σ i o [.string ⟨⟨[]⟩⟩, .int .i64 er] fun σ => K (.tuple ⟨[(.slice none 0 0), .int .i64 er]⟩) σ)
          | false => false
        | false => K (.tuple ⟨[(.slice none 0 0), .int .i64 e]⟩) σ
      | _, _ => false
    | _ => false
  | _ => false
theorem wvals_cons (l : List UInt8) (k : Nat) : wvals l (k + 1) = .int .u64 ((be (l.take 8) : Nat) : Int) :: wvals (l.drop 8) k := by
  simp only [wvals, wds, List.range_succ_eq_map, List.map_cons, List.map_map]
  refine congr (congrArg _ (by simp)) ?_
  apply List.map_congr_left
  intro x _
  simp only [Function.comp, List.drop_drop]
  rw [show 8 * (x + 1) = 8 + 8 * x by omega]
theorem wdsK_eq : ∀ (n : Nat) (l : List UInt8) (k : List Value → List UInt8 → Bool), n * 8 ≤ l.length → wdsK n l k = k (wvals l n) (l.drop (8 * n)) := by
  intro n
  induction n with
  | zero => intro l k _; rfl
  | succ n ih =>
    intro l k hl
    show takeK 8 l (fun h => dropK 8 l fun t => beK h fun x => wdsK n t fun vs rest => k (.int .u64 (.ofNat x) :: vs) rest) = _
    rw [takeK_eq, if_pos (by omega), dropK_eq, if_pos (by omega), beK_eq, ih _ _ (by rw [List.length_drop]; omega), wvals_cons, List.drop_drop, show 8 + 8 * n = 8 * (n + 1) by omega]
    rfl
theorem size64 : sizeT Try.prog 56 = some 1 := by kernel_rfl
theorem wvals_flat (l : List UInt8) (n : Nat) : ∀ v ∈ wvals l n, flat0 v = true := by
  intro v hv
  simp only [wvals, List.mem_map] at hv
  obtain ⟨x, _, rfl⟩ := hv
  rfl
section
variable {w0 : World} {ρ : Rn} {σ : St} {w : World}
theorem list_spec (s : ByteArray) (ok : List Value → List UInt8 → Bool) (no : Int → Bool) (hs : s.size < 9223372036854775808) (hk : listK s.data.toList s.size ok no = true) :
    (∃ (xs : List Value) (rest : ByteArray), ok xs rest.data.toList = true ∧ (∀ v ∈ xs, flat0 v = true) ∧ HowList 102 #[] s rest xs w) ∨ ∃ er, no er = true ∧ HowLack 102 #[] s er w := by
  unfold listK at hk
  split at hk
  · rename_i hn
    have hn := Nat.le_of_ble_eq_true hn
    have hl : 2 ≤ s.data.toList.length := hn
    rw [takeK_eq, if_pos hl, dropK_eq, if_pos hl, beK_eq] at hk
    have e1 := ext_drop s 2
    have hsz1 : (s.extract 2 s.size).size = (s.data.toList.drop 2).length := by rw [← e1]; rfl
    split at hk
    · rename_i hle
      have hle := Nat.le_of_ble_eq_true hle
      rw [lenK_eq] at hk
      split at hk
      · rename_i hle2
        have hle2 : be (s.data.toList.take 2) * 8 ≤ (s.data.toList.drop 2).length := Nat.le_of_ble_eq_true hle2
        rw [wdsK_eq _ _ _ hle2, ← e1, ← ext_drop] at hk
        exact .inl ⟨_, _, hk, wvals_flat _ _, how_list s _ _ w rfl rfl hle hn hs (by rw [hsz1]; exact hle2)⟩
      · rename_i hle2
        exact .inr ⟨8, hk, how_list_cut s _ _ w rfl rfl hle hn hs (by rw [hsz1]; have h9 : ¬ be (s.data.toList.take 2) * 8 ≤ (s.data.toList.drop 2).length := Nat.not_le_of_not_ble_eq_true (fun h9 => by have h9 : Nat.ble (Nat.mul (be (s.data.toList.take 2)) 8) (s.data.toList.drop 2).length = true := h9; rw [hle2] at h9; cases h9); exact Nat.lt_of_not_le h9)⟩
    · rename_i hle
      exact .inr ⟨40, hk, how_list_large s w hn hs (by have := Nat.not_le_of_not_ble_eq_true (by rw [hle]; decide); omega)⟩
  · rename_i hn
    exact .inr ⟨8, hk, how_list_short s w (by have := Nat.not_le_of_not_ble_eq_true (by rw [hn]; decide); omega)⟩
theorem rdL_sound (hrel : Rel Try.prog w0 ρ σ w) (hent : ∀ args w, (callFunc 102 args).run Try.prog w = .ok (.enter 102 args) w) {p p' : Value} (hv : VR ρ p p') {K : VK} (hk : rdLK σ p K = true) :
    Calls Try.prog 101 #[p', .func (.func 102) #[] #[]] w (Back Try.prog w0 ρ w K) := by
  unfold rdLK at hk
  split at hk
  · cases hv.of_flat rfl
    refine (readL_nil _ w).mono ?_
    rintro e w' ⟨rfl, hb⟩
    obtain ⟨r1, r2⟩ := hrel.below hb
    exact ⟨_, rfl, ρ, _, σ, hk, tup2 rfl rfl, r1, r2⟩
  · rename_i i o
    obtain ⟨_, L, hL, rfl⟩ := hv.ptr_inv
    obtain ⟨vs, e, ck, ho, hk⟩ := cellsK_true hk
    split at hk
    · obtain ⟨a, hao, hk⟩ := nthK_true' hk
      obtain ⟨b, hbo, hk⟩ := nthK_true' hk
      obtain ⟨cs, t, fz, hb, hcv, g1, g2, g3, g4, g5⟩ := hrel.cells ho hL
      obtain ⟨a', ha', har⟩ := hcv o a hao
      obtain ⟨b', hb', hbr⟩ := hcv (o + 1) b hbo
      have hlt : L.b < w.heap.size := hrel.loc i L hL
      have c0 : w.cell? ⟨L.b, L.s + o, none⟩ = some a' := cell_of hb ha'
      have c1 : w.cell? ⟨L.b, L.s + o + 1, none⟩ = some b' := cell_of hb hb'
      have f0 : w.frozen? ⟨L.b, L.s + o, none⟩ = false := frozen_exact hb g4 (Array.getElem?_eq_some_iff.1 ha').1
      have f1 : w.frozen? ⟨L.b, L.s + o + 1, none⟩ = false := frozen_exact hb g4 (Array.getElem?_eq_some_iff.1 hb').1
      have key : ∃ s er, a = .string s ∧ b = .int .i64 er := by
        revert hk
        cases a <;> cases b <;> first | (intro hk; cases hk; done) | skip
        rename_i s k er
        cases k <;> first | (intro hk; cases hk; done) | (intro _; exact ⟨_, _, rfl, rfl⟩)
      obtain ⟨s, er, rfl, rfl⟩ := key
      · cases har.of_flat rfl
        cases hbr.of_flat rfl
        dsimp only at hk
        split at hk
        · rename_i he
          rw [eqI_eq] at he
          have he := eq_of_beq he
          subst he
          rw [lenK_eq] at hk
          split at hk
          · rename_i hn
            have hn : s.size < 9223372036854775808 := Nat.le_of_ble_eq_true hn
            rcases list_spec (w := w) s _ _ hn hk with ⟨xs, rest, hk, hfl, H⟩ | ⟨er, hk, H⟩
            · obtain ⟨σ', w1, hk, r1, r2, hrun⟩ := writeK_sound hrel hk hL (VRs.cons (.flat (v := .string rest) rfl) (.nil ρ)) (by intro v hv; simp at hv; subst hv; rfl)
              have hset : (storeCells ⟨L.b, L.s + o, none⟩ [.string rest]).run Try.prog w = .ok () (w.setCell ⟨L.b, L.s + o, none⟩ (.string rest)) := by
                simp only [storeCells, add_none, Nat.add_zero]
                rw [Sem.run_bind, run_store Try.prog w _ _ .plain rfl, c0, f0]
                rfl
              rw [hset] at hrun
              injection hrun with _ hrun
              subst hrun
              refine (readM_ok L.b (L.s + o) 102 #[] s rest xs w hlt c0 c1 f0 hent H).mono ?_
              rintro e w' ⟨x, xc, rfl, hX, hown, hbl⟩
              have hbl' := hbl.mono (show (w.setCell ⟨L.b, L.s + o, none⟩ (.string rest)).heap.size ≤ w.heap.size by simp [World.setCell])
              unfold rowK at hk
              rw [lenK_eq] at hk
              split at hk
              · rename_i h0
                obtain ⟨q1, q2⟩ := r1.below hbl'
                obtain ⟨rfl, rfl⟩ := hX h0
                rw [h0]
                exact ⟨_, rfl, ρ, _, σ', hk, tup2 rfl rfl, q1, r2.trans q2⟩
              · rename_i n' hn'
                rw [newK_eq] at hk
                rcases hown.2 with ⟨_, h0⟩ | ⟨g, cap, cur, hv0, hg, hcur, hnc, hcm, hcs, htk⟩
                · omega
                · injection hv0 with z1 z2 z3
                  subst z1 z3
                  obtain ⟨h1, h2⟩ := r1.belowRow hbl' size64 (by simpa [World.setCell] using hg) hcur (VRs.flat hfl) (by simpa using htk)
                  refine ⟨_, rfl, _, _, _, hk, ?_, h1, r2.trans h2⟩
                  rw [hn']
                  refine .mk_tuple (VRs.cons ?_ (VRs.cons (.flat rfl) (.nil _)))
                  have := VR.sliceIn (ρ := ρ.put σ'.n ⟨g, 0, cur.size, 1⟩) (i := σ'.n) (o := 0) (n := n' + 1) (c := n' + 1) (c' := xc) (Rn.put_same _ _ _) (by omega) (Nat.le_refl _) (by simp [hcs]) (by simp)
                  simpa using this
            · obtain ⟨σ', w1, hk, r1, r2, hrun⟩ := writeK_sound hrel hk hL (VRs.cons (.flat (v := .string ⟨#[]⟩) rfl) (VRs.cons (.flat (v := .int .i64 er) rfl) (.nil ρ))) (by intro v hv; simp at hv; rcases hv with rfl | rfl <;> rfl)
              have hset : (storeCells ⟨L.b, L.s + o, none⟩ [.string ⟨#[]⟩, .int .i64 er]).run Try.prog w = .ok () ((w.setCell ⟨L.b, L.s + o, none⟩ (.string ⟨#[]⟩)).setCell ⟨L.b, L.s + o + 1, none⟩ (.int .i64 er)) := by
                have d1 : (w.setCell ⟨L.b, L.s + o, none⟩ (.string ⟨#[]⟩)).cell? ⟨L.b, L.s + o + 1, none⟩ = some (.int .i64 0) := by
                  rw [World.cell?_setCell_other _ _ _ _ (by intro e; injection e with _ e; omega)]; exact c1
                have d2 : (w.setCell ⟨L.b, L.s + o, none⟩ (.string ⟨#[]⟩)).frozen? ⟨L.b, L.s + o + 1, none⟩ = false := by rw [World.frozen?_setCell]; exact f1
                simp only [storeCells, add_none, Nat.add_zero]
                rw [Sem.run_bind, run_store Try.prog w _ _ .plain rfl, c0, f0]
                simp only [Result.andThen]
                simp only [Bool.false_eq_true, if_false, Nat.zero_add]
                rw [Sem.run_bind, run_store Try.prog _ _ _ .plain rfl, Nat.add_assoc] at *
                rw [d1, d2]
                rfl
              rw [hset] at hrun
              injection hrun with _ hrun
              subst hrun
              refine (readL_lack L.b (L.s + o) 102 #[] s er w hlt c0 c1 f0 f1 hent H).mono ?_
              rintro e w' ⟨rfl, hbl⟩
              obtain ⟨q1, q2⟩ := r1.below (w' := w') (hbl.mono (by simp [World.setCell]))
              exact ⟨_, rfl, ρ, _, σ', hk, tup2 rfl rfl, q1, r2.trans q2⟩
          · cases hk
        · rename_i he
          have he' : er ≠ 0 := by
            intro e; subst e
            exact absurd he (by decide)
          refine (readL_wrong L.b (L.s + o) _ er w hlt c1 he').mono ?_
          rintro e w' ⟨rfl, hbl⟩
          obtain ⟨q1, q2⟩ := hrel.below hbl
          exact ⟨_, rfl, ρ, _, σ, hk, tup2 rfl rfl, q1, q2⟩
    · cases hk
  · cases hk
end
end Go.Am

namespace Go.Am
open Go.RowKit Go.MapKept Go.Proofs Go.Proofs.Rdr
/-- so many bytes of a number, the highest first -/
noncomputable def bebK (n : Nat) (j : Nat) : (List UInt8 → Bool) → Bool :=
  Nat.rec (motive := fun _ => (List UInt8 → Bool) → Bool) (fun k => k []) (fun i ih k => forceN (Nat.mod (Nat.div n (Nat.pow 256 i)) 256) fun x => ih fun t => k (UInt8.ofNat x :: t)) j
noncomputable def ovPut (args : List Value) (σ : St) (K : VK) : Bool :=
  match args with
  | [.string ⟨⟨l⟩⟩, .int .u64 (.ofNat n), .int .i64 (.ofNat k)] => match Nat.blt n 18446744073709551616, Nat.ble k 8 with
    | true, true => lenK l fun m => match Nat.ble m 35184372088832 with
      | true => bebK n k fun t => appK l t fun bs => K (.string ⟨⟨bs⟩⟩) σ
      | false => false
    | _, _ => false
  | _ => false
theorem bebK_eq (n : Nat) : ∀ (j : Nat) (k : List UInt8 → Bool), bebK n j k = k (beb j n) := by
  intro j
  induction j with
  | zero => intro k; rfl
  | succ j ih =>
    intro k
    show forceN (Nat.mod (Nat.div n (Nat.pow 256 j)) 256) (fun x => bebK n j fun t => k (UInt8.ofNat x :: t)) = _
    rw [forceN_eq, ih]
    show k (UInt8.ofNat (n / 256 ^ j % 256) :: beb j n) = k (UInt8.ofNat (n / 256 ^ j) :: beb j n)
    congr 2
    apply UInt8.toNat_inj.1
    simp
section
variable {w0 : World} {ρ : Rn} {σ : St} {w : World}
theorem ovPut_ok : CallOk Try.prog w0 (fun f' args σ K => match Nat.beq f' 76 with | true => ovPut args σ K | false => false) := by
  intro f' args σ K ρ w args' hk h ha
  dsimp only at hk
  split at hk
  · rename_i hf'
    obtain rfl : f' = 76 := by simpa using hf'
    refine ⟨enters_of Try.func76 (by kernel_rfl) rfl ⟨args'⟩, ?_⟩
    unfold ovPut at hk
    split at hk
    · rename_i l n k
      obtain ⟨a', t, rfl, h1, h2⟩ := ha.inv_cons
      obtain ⟨b', t, rfl, h3, h4⟩ := h2.inv_cons
      obtain ⟨c', rfl, h5⟩ := one_arg h4
      cases h1.of_flat rfl
      cases h3.of_flat rfl
      cases h5.of_flat rfl
      split at hk
      · rename_i hn hk8
        have hn := Nat.le_of_ble_eq_true hn
        have hk8 := Nat.le_of_ble_eq_true hk8
        rw [lenK_eq] at hk
        split at hk
        · rename_i hm
          have hm := Nat.le_of_ble_eq_true hm
          rw [bebK_eq, appK_eq] at hk
          have C := put_ok ⟨⟨l⟩⟩ n k w hn hk8 hm
          refine callsIn_wide.2 (C.mono ?_)
          rintro e w' ⟨rfl, hb⟩
          obtain ⟨g1, g2⟩ := h.below hb
          exact ⟨_, rfl, ρ, _, σ, hk, .flat rfl, g1, g2⟩
        · cases hk
      · cases hk
    · cases hk
  · cases hk
end
end Go.Am

namespace Go.Am
open Go.RowKit Go.MapKept Go.Proofs Go.Proofs.Rdr
end Go.Am

namespace Go.Am
open Go.RowKit Go.MapKept Go.Proofs Go.Proofs.Rdr
noncomputable def ovList (args : List Value) (σ : St) (K : VK) : Bool :=
  match args with
  | [p, .func (.func g) ⟨[]⟩ ⟨[]⟩] => match Nat.beq g 102 with
    | true => rdLK σ p K
    | false => false
  | _ => false
theorem ovList_ok {w0 : World} : CallOk Try.prog w0 (fun f' args σ K => match Nat.beq f' 101 with | true => ovList args σ K | false => false) := by
  intro f' args σ K ρ w args' hk hr ha
  dsimp only at hk
  split at hk
  · rename_i hf'
    obtain rfl : f' = 101 := by simpa using hf'
    refine ⟨enters_of Try.func101 (by kernel_rfl) rfl ⟨args'⟩, ?_⟩
    unfold ovList at hk
    split at hk
    · rename_i p g
      obtain ⟨p', fv, rfl, hv, hf⟩ := two_args ha
      cases hf.func0
      split at hk
      · rename_i hg
        have hg := Nat.eq_of_beq_eq_true hg
        subst hg
        exact callsIn_wide.2 (rdL_sound hr (enters_of Try.func102 (by kernel_rfl) rfl) hv hk)
      · cases hk
    · cases hk
  · cases hk
/-- all of them on top of others -/
noncomputable def ovX (ov : FuncId → Option (List Value → St → VK → Bool)) : FuncId → Option (List Value → St → VK → Bool) :=
  ovWith 75 ovCC <|
  ovWith 15 ovStr <|
  ovWith 76 ovPut <|
  ovWith 101 ovList <|
  ovWith 99 (ovRd 100 (.int .u64 (.ofNat 0)) numP) <|
  ovWith 97 (ovRd 98 (.int .u8 (.ofNat 0)) byteP) <|
  ovWith 104 (ovRd 105 (.string ⟨⟨[]⟩⟩) textP) <|
  ovWith 32 (ovRd 33 (.bool false) endP) <|
  ovWith 94 ovCnt <|
  ov
theorem ovX_ok {w0 : World} {ov : FuncId → Option (List Value → St → VK → Bool)} (h : OvOk Try.prog w0 ov) : OvOk Try.prog w0 (ovX ov) :=
  ovWith_ok (f := 75) ovCC_ok <|
  ovWith_ok (f := 15) ovStr_ok <|
  ovWith_ok (f := 76) ovPut_ok <|
  ovWith_ok (f := 101) ovList_ok <|
  ovWith_ok (f := 99) (ovRd_ok (enters_of Try.func99 (by kernel_rfl) rfl) (rspec64 (enters_of Try.func100 (by kernel_rfl) rfl)) rfl fun _ => num_spec) <|
  ovWith_ok (f := 97) (ovRd_ok (enters_of Try.func97 (by kernel_rfl) rfl) (rspec8 (enters_of Try.func98 (by kernel_rfl) rfl)) rfl fun _ => byte_spec) <|
  ovWith_ok (f := 104) (ovRd_ok (enters_of Try.func104 (by kernel_rfl) rfl) (rspecS (enters_of Try.func105 (by kernel_rfl) rfl)) rfl fun _ => text_spec) <|
  ovWith_ok (f := 32) (ovRd_ok (enters_of Try.func32 (by kernel_rfl) rfl) (rspecB (enters_of Try.func33 (by kernel_rfl) rfl)) rfl fun _ => end_spec) <|
  ovWith_ok (f := 94) ovCnt_ok <|
  h
end Go.Am
