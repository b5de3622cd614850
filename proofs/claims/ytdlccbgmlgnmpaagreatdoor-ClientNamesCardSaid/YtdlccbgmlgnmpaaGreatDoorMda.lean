/- mod: what powers and inverses come to: plain functions of numbers. -/
import Derived.Shelf.Bits.Mul64
import Derived.WalkKit
import Derived.Below
import Derived.BigCall
import Derived.Laws.Bits64
import Derived.Lib.Hide
import Derived.Deep.QuietTactic
import Derived.BigQuiet
import Derived.WalkSmall
import Derived.RegionTactic
import Derived.Test.YtdlccbgmlgnmpaaGreatDoorChecked
import Derived.Test.YtdlccbgmlgnmpaaGreatDoorAmc

namespace Go.Proofs.Mdl
/-- a power, bit by bit: so many bits at most -/
def powF : Nat → Nat → Nat → Nat → Nat → Nat
  | 0, out, _, _, _ => out
  | f + 1, out, a, e, m => match Nat.beq e 0 with
    | true => out
    | false => powF f (match Nat.beq (e % 2) 1 with | true => out * a % m | false => out) (a * a % m) (e / 2) m
theorem powF_zero (f out a m : Nat) : powF f out a 0 m = out := by cases f <;> rfl
theorem powF_succ {f out a e m : Nat} (h : 0 < e) : powF (f + 1) out a e m = powF f (if e % 2 = 1 then out * a % m else out) (a * a % m) (e / 2) m := by
  have e1 : Nat.beq e 0 = false := by cases e with | zero => omega | succ e => rfl
  show (match Nat.beq e 0 with | true => out | false => _) = _
  rw [e1]
  by_cases h2 : e % 2 = 1
  · have e2 : Nat.beq (e % 2) 1 = true := by rw [h2]; rfl
    simp only [e2, if_pos h2]
  · have e2 : Nat.beq (e % 2) 1 = false := by have : e % 2 = 0 := by omega
                                              rw [this]; rfl
    simp only [e2, if_neg h2]
def subN (a b m : Nat) : Nat := (a % m + m - b % m) % m
/-- Euclid's way: so many steps at most -/
def invF : Nat → Nat → Nat → Nat → Nat → Nat → Nat × Nat
  | 0, r, _, x, _, _ => (r, x)
  | f + 1, r, s, x, y, m => match Nat.beq s 0 with
    | true => (r, x)
    | false => invF f s (r % s) y (subN x (r / s * y % m) m) m
theorem invF_zero (f r x y m : Nat) : invF f r 0 x y m = (r, x) := by cases f <;> rfl
theorem invF_succ {f r s x y m : Nat} (h : 0 < s) : invF (f + 1) r s x y m = invF f s (r % s) y (subN x (r / s * y % m) m) m := by
  have e1 : Nat.beq s 0 = false := by cases s with | zero => omega | succ s => rfl
  show (match Nat.beq s 0 with | true => _ | false => _) = _
  rw [e1]
end Go.Proofs.Mdl

namespace Go.Proofs.Mdl
open Go Go.RowKit Go.Proofs Go.Shelf
def ren264 : Go.Shelf.Ren := ⟨fun | 264 => 211 | n => n, fun | 46 => 339 | 53 => 58 | n => n, fun n => n⟩
theorem lays264 : Lays.n264 Tryz.prog ren264 := {
  mixed := by kernel_rfl
  f264 := Tryz.func211.trans (congrArg some (by kernel_rfl))
  t46 := Tryz.underlying339
  a46 := Tryz.isAgg339
  z46 := Tryz.sizeOf339
  v46 := Tryz.zeroValue339
  t53 := Tryz.underlying58
  a53 := Tryz.isAgg58
  z53 := Tryz.sizeOf58
  v53 := Tryz.zeroValue58 }
theorem may_ok (m : Nat) (w : World) (h0 : 0 < m) (h1 : m ≤ 4294967296) : Calls Tryz.prog 210 #[.int .u64 m] w fun e w' => e = .returned (.bool true) ∧ w = w' := by
  have h2 : m ≤ 2305843009213693952 := by omega
  have h3 : decide ((m : Int) ≤ 2305843009213693952) = true := by simp; omega
  go_enter Tryz.func210, Tryz.ntmps210
  go_wp2
  go_ret
  exact ⟨rfl, rfl⟩
theorem div_ok (lo y : Nat) (w : World) (h0 : 0 < y) (h1 : y < 18446744073709551616) (h2 : lo < 18446744073709551616) : Calls Tryz.prog 262 #[.int .u64 0, .int .u64 lo, .int .u64 y] w fun e w' => e = .returned (.tuple #[.int .u64 ((lo / y : Nat) : Int), .int .u64 ((lo % y : Nat) : Int)]) ∧ Below w.heap.size w w' := by
  have g1 : ((y : Int) == 0) = false := by rw [beq_eq_false_iff_ne]; omega
  have g2 : decide (y = 0) = false := by simp; omega
  go_enter Tryz.func262, Tryz.ntmps262
  go_wp2
  go_quiet (fail)
  go_wp2
  go_ret2
  refine ⟨?_, below_drewN (Below.refl _ _) _⟩
  show Ending.returned (.tuple #[.int .u64 (IntKind.u64.wrap ((lo / y : Nat) : Int)), .int .u64 ((lo % y : Nat) : Int)]) = _
  rw [Mul64.wrapN _ (Nat.lt_of_le_of_lt (Nat.div_le_self _ _) h2)]
theorem rem_ok (lo y : Nat) (w : World) (h0 : 0 < y) (h1 : y < 18446744073709551616) (h2 : lo < 18446744073709551616) : Calls Tryz.prog 212 #[.int .u64 0, .int .u64 lo, .int .u64 y] w fun e w' => e = .returned (.int .u64 ((lo % y : Nat) : Int)) ∧ Below w.heap.size w w' := by
  have g1 : ((y : Int) == 0) = false := by rw [beq_eq_false_iff_ne]; omega
  have C := div_ok lo y w h0 h1 h2
  go_enter Tryz.func212, Tryz.ntmps212
  go_wp2_with fail
  refine C.mono ?_
  rintro e W1 ⟨rfl, hb⟩
  go_wp2
  go_ret
  exact ⟨rfl, hb⟩
set_option maxHeartbeats 1000000 in
theorem mul_ok (a b m : Nat) (w : World) (ha : a < 18446744073709551616) (hb : b < 18446744073709551616) (hm : m ≤ 4294967296) (h0 : 0 < m) :
    Calls Tryz.prog 145 #[.int .u64 a, .int .u64 b, .int .u64 m] w fun e w' => e = .returned (.int .u64 ((a * b % m : Nat) : Int)) ∧ Below w.heap.size w w' := by
  have g1 : ((m : Int) == 0) = false := by rw [beq_eq_false_iff_ne]; omega
  have la : a % m < m := Nat.mod_lt _ h0
  have lb : b % m < m := Nat.mod_lt _ h0
  have lab : a % m * (b % m) < 18446744073709551616 := by
    have : a % m * (b % m) ≤ 4294967295 * 4294967295 := Nat.mul_le_mul (by omega) (by omega)
    omega
  have C1 : ∀ w, Calls Tryz.prog 211 #[.int .u64 ((a % m : Nat) : Int), .int .u64 ((b % m : Nat) : Int)] w fun e w' => e = .returned (.tuple #[.int .u64 0, .int .u64 ((a % m * (b % m) : Nat) : Int)]) ∧ w' = w := by
    intro w
    have C := Any.bits_Mul64 lays264 (a % m) (b % m) (by omega) (by omega) w
    rw [Nat.div_eq_of_lt lab, Nat.mod_eq_of_lt lab] at C
    exact C
  have C2 : ∀ w, Calls Tryz.prog 212 #[.int .u64 0, .int .u64 ((a % m * (b % m) : Nat) : Int), .int .u64 m] w fun e w' => e = .returned (.int .u64 ((a * b % m : Nat) : Int)) ∧ Below w.heap.size w w' := by
    intro w
    have C := rem_ok (a % m * (b % m)) m w h0 (by omega) lab
    rw [← Nat.mul_mod] at C
    exact C
  have hM := may_ok m w h0 hm
  clear la lb lab
  go_enter Tryz.func145, Tryz.ntmps145
  go_wp2_with fail
  refine hM.mono ?_
  rintro e W1 ⟨rfl, rfl⟩
  go_wp2_with fail
  go_quiet ((go_at_call 211; exact Calls.quiet_of_same (C1 _)))
  go_wp2_with fail
  refine (C2 _).mono ?_
  rintro e W2 ⟨rfl, hb2⟩
  go_wp2
  go_ret
  exact ⟨rfl, (below_drewN (Below.refl _ _) _).trans hb2⟩
theorem add_ok (a b m : Nat) (w : World) (ha : a < 18446744073709551616) (hb : b < 18446744073709551616) (hm : m ≤ 4294967296) (h0 : 0 < m) :
    Calls Tryz.prog 144 #[.int .u64 a, .int .u64 b, .int .u64 m] w fun e w' => e = .returned (.int .u64 (((a % m + b % m) % m : Nat) : Int)) ∧ Below w.heap.size w w' := by
  have g1 : ((m : Int) == 0) = false := by rw [beq_eq_false_iff_ne]; omega
  have la : a % m < m := Nat.mod_lt _ h0
  have lb : b % m < m := Nat.mod_lt _ h0
  have g2 := Mul64.wrapN (a % m + b % m) (by omega)
  have hM := may_ok m w h0 hm
  clear la lb
  go_enter Tryz.func144, Tryz.ntmps144
  go_wp2_with fail
  refine hM.mono ?_
  rintro e W1 ⟨rfl, rfl⟩
  go_wp2_with fail
  go_quiet (fail)
  go_wp2
  go_ret
  refine ⟨congrArg (fun x => Ending.returned (.int .u64 x)) ?_, below_drewN (Below.refl _ _) _⟩
  show (IntKind.u64.wrap ((a : Int) % m + (b : Int) % m)).tmod m = _
  have e1 : (a : Int) % m + (b : Int) % m = ((a % m + b % m : Nat) : Int) := by norm_cast
  rw [e1, g2, ← Int.ofNat_tmod]
theorem sub_ok (a b m : Nat) (w : World) (ha : a < 18446744073709551616) (hb : b < 18446744073709551616) (hm : m ≤ 4294967296) (h0 : 0 < m) :
    Calls Tryz.prog 173 #[.int .u64 a, .int .u64 b, .int .u64 m] w fun e w' => e = .returned (.int .u64 ((subN a b m : Nat) : Int)) ∧ Below w.heap.size w w' := by
  have g1 : ((m : Int) == 0) = false := by rw [beq_eq_false_iff_ne]; omega
  have la : a % m < m := Nat.mod_lt _ h0
  have lb : b % m < m := Nat.mod_lt _ h0
  have g2 := Mul64.wrapN (a % m + m) (by omega)
  have hM := may_ok m w h0 hm
  clear la lb
  go_enter Tryz.func173, Tryz.ntmps173
  go_wp2_with fail
  refine hM.mono ?_
  rintro e W1 ⟨rfl, rfl⟩
  go_wp2_with fail
  go_quiet (fail)
  go_wp2
  go_ret
  refine ⟨congrArg (fun x => Ending.returned (.int .u64 x)) ?_, below_drewN (Below.refl _ _) _⟩
  show (IntKind.u64.wrap (IntKind.u64.wrap ((a : Int) % m + m) - (b : Int) % m)).tmod m = _
  have lb : b % m < m := Nat.mod_lt _ h0
  have la : a % m < m := Nat.mod_lt _ h0
  have e1 : (a : Int) % m + m = ((a % m + m : Nat) : Int) := by norm_cast
  have e2 : ((a % m + m : Nat) : Int) - (b : Int) % m = ((a % m + m - b % m : Nat) : Int) := by
    have : ((b % m : Nat) : Int) = (b : Int) % m := by norm_cast
    rw [← this]; omega
  rw [e1, g2, e2, Mul64.wrapN _ (by omega), ← Int.ofNat_tmod]
  rfl
theorem and_one (e : Nat) (he : e < 18446744073709551616) : bits .and .u64 (e : Int) 1 = ((e % 2 : Nat) : Int) := by
  have h := bits_and_u64_nat e 1 he (by omega)
  rw [Nat.and_one_is_mod] at h
  exact h
set_option maxHeartbeats 1000000 in
theorem pow_ok (a e m : Nat) (w : World) (ha : a < 18446744073709551616) (he : e < 18446744073709551616) (h0 : 0 < m) (hm : m ≤ 4294967296) :
    Calls Tryz.prog 205 #[.int .u64 a, .int .u64 e, .int .u64 m] w fun r w' => r = .returned (.int .u64 ((powF 64 (1 % m) a e m : Nat) : Int)) ∧ Below w.heap.size w w' := by
  have g1 : ((m : Int) == 0) = false := by rw [beq_eq_false_iff_ne]; omega
  have hM := may_ok m w h0 hm
  go_enter Tryz.func205, Tryz.ntmps205
  go_wp2_with fail
  refine hM.mono ?_
  rintro e W1 ⟨rfl, rfl⟩
  go_wp2_with fail
  go_loopw [0, 1, 7] (fun av ev ov wr => ∃ (f a' e' o' : Nat), a' < 18446744073709551616 ∧ o' < 18446744073709551616 ∧ e' < 2 ^ f ∧ f ≤ 64 ∧ av = .int .u64 a' ∧ ev = .int .u64 e' ∧ ov = .int .u64 o' ∧ powF f o' a' e' m = powF 64 (1 % m) a e m ∧ Below w.heap.size w wr) (fun _ ev _ _ => (intOf ev).toNat)
  case atStart => exact ⟨64, a, e, 1 % m, ha, by have := Nat.mod_lt 1 h0; omega, he, Nat.le_refl _, rfl, rfl, by norm_cast, rfl, Below.refl _ _⟩
  case round =>
    obtain ⟨f, a', e', o', h1, h2, h3, h4, rfl, rfl, rfl, h5, h6⟩ := hrel
    have H5 := Lib.hid h5
    clear h5
    have he' : e' < 18446744073709551616 := by
      have : 2 ^ f ≤ 2 ^ 64 := Nat.pow_le_pow_right (by omega) h4
      omega
    by_cases hz : 0 < e'
    · obtain ⟨f, rfl⟩ : ∃ g, f = g + 1 := by
        cases f with
        | zero => simp at h3; omega
        | succ g => exact ⟨g, rfl⟩
      have hstep := powF_succ (f := f) (out := o') (a := a') (m := m) hz
      have HS := Lib.hid hstep
      clear hstep
      have h3' : e' / 2 < 2 ^ f := by rw [Nat.pow_succ] at h3; omega
      have la : a' * a' % m < m := Nat.mod_lt _ h0
      have lo : o' * a' % m < m := Nat.mod_lt _ h0
      clear h3
      have ga := and_one e' he'
      by_cases ho : e' % 2 = 1
      · have ga1 : bits .and .u64 (e' : Int) 1 = 1 := by rw [ga, ho]; rfl
        have HO := Lib.hid ho
        clear ga ho
        go_wp2_with fail
        refine (mul_ok o' a' m _ h2 h1 hm h0).mono ?_
        rintro r W1 ⟨rfl, hb1⟩
        go_wp2_with fail
        refine (mul_ok a' a' m _ h1 h1 hm h0).mono ?_
        rintro r W2 ⟨rfl, hb2⟩
        go_wp2
        go_roundw
        case rel =>
          refine ⟨f, a' * a' % m, e' / 2, o' * a' % m, by omega, by omega, h3', by omega, rfl, ?_, rfl, ?_, h6.trans ((hb1.mono h6.size).trans (hb2.mono (Nat.le_trans h6.size hb1.size)))⟩
          · norm_cast
          · rw [← H5.out, HS.out, if_pos HO.out]
        case measure => simp [intOf]; omega
      · have ho : e' % 2 = 0 := by omega
        have ga1 : bits .and .u64 (e' : Int) 1 = 0 := by rw [ga, ho]; rfl
        have HO := Lib.hid ho
        clear ga ho
        go_wp2_with fail
        refine (mul_ok a' a' m _ h1 h1 hm h0).mono ?_
        rintro r W2 ⟨rfl, hb2⟩
        go_wp2
        go_roundw
        case rel =>
          refine ⟨f, a' * a' % m, e' / 2, o', by omega, by omega, h3', by omega, rfl, ?_, rfl, ?_, h6.trans (hb2.mono h6.size)⟩
          · norm_cast
          · rw [← H5.out, HS.out, if_neg (by rw [HO.out]; omega)]
        case measure => simp [intOf]; omega
    · obtain rfl : e' = 0 := by omega
      go_wp2
      go_ret
      refine ⟨?_, h6⟩
      have := H5.out
      rw [powF_zero] at this
      rw [← this]
      rfl
/-- how an inverse ends -/
def InvEnds (a m : Nat) (e : Ending) : Prop := e = .returned (if (invF (a % m + 1) m (a % m) 0 (1 % m) m).1 = 1 then .tuple #[.int .u64 ((invF (a % m + 1) m (a % m) 0 (1 % m) m).2 : Nat), .int .i64 0] else .tuple #[.int .u64 0, .int .i64 5])
set_option maxHeartbeats 1000000 in
theorem inv_ok (a m : Nat) (w : World) (ha : a < 18446744073709551616) (h0 : 0 < m) (hm : m ≤ 4294967296) :
    Calls Tryz.prog 362 #[.int .u64 a, .int .u64 m] w fun r w' => InvEnds a m r ∧ Below w.heap.size w w' := by
  have g1 : ((m : Int) == 0) = false := by rw [beq_eq_false_iff_ne]; omega
  have hM := may_ok m w h0 hm
  go_enter Tryz.func362, Tryz.ntmps362
  go_wp2_with fail
  refine hM.mono ?_
  rintro e W1 ⟨rfl, rfl⟩
  go_wp2_with fail
  go_quiet (fail)
  go_wp2_with fail
  go_quiet (fail)
  go_wp2_with fail
  go_loopw [6, 7, 8, 9, 10] (fun rv sv xv yv _ wr => ∃ (f r s x y : Nat), r < 18446744073709551616 ∧ s < f ∧ s < 18446744073709551616 ∧ x < 18446744073709551616 ∧ y < 18446744073709551616 ∧ rv = .int .u64 r ∧ sv = .int .u64 s ∧ xv = .int .u64 x ∧ yv = .int .u64 y ∧ invF f r s x y m = invF (a % m + 1) m (a % m) 0 (1 % m) m ∧ Below w.heap.size w wr) (fun _ sv _ _ _ _ => (intOf sv).toNat)
  case atStart =>
    have l1 : a % m < m := Nat.mod_lt _ h0
    have l2 : 1 % m < m := Nat.mod_lt _ h0
    exact ⟨a % m + 1, m, a % m, 0, 1 % m, by omega, by omega, by omega, by omega, by omega, rfl, by norm_cast, rfl, by norm_cast, rfl, below_drewN (below_drewN (Below.refl _ _) _) _⟩
  case round =>
    obtain ⟨f, r, s, x, y, h1, h2, h3, h4, h5, rfl, rfl, rfl, rfl, h6, h7⟩ := hrel
    have H6 := Lib.hid h6
    clear h6
    by_cases hz : 0 < s
    · obtain ⟨f, rfl⟩ : ∃ g, f = g + 1 := ⟨f - 1, by omega⟩
      have hstep := invF_succ (f := f) (r := r) (x := x) (y := y) (m := m) hz
      have HS := Lib.hid hstep
      clear hstep
      have l1 : r % s < s := Nat.mod_lt _ hz
      have l2 : r / s ≤ r := Nat.div_le_self _ _
      have l3 : r / s * y % m < m := Nat.mod_lt _ h0
      have l4 : subN x (r / s * y % m) m < m := Nat.mod_lt _ h0
      have g2 : ((s : Int) == 0) = false := by rw [beq_eq_false_iff_ne]; omega
      have g3 : ((s : Int) != 0) = true := by rw [bne_iff_ne]; omega
      have g4 : IntKind.u64.wrap ((r : Int) / s) = ((r / s : Nat) : Int) := by
        have := Mul64.wrapN (r / s) (by omega)
        rw [← this]; norm_cast
      have G4 := Lib.hid g4
      clear g4
      go_wp2_with fail
      go_quiet (fail)
      go_wp2_with fail
      rw [G4.out]
      refine (mul_ok (r / s) y m _ (by omega) h5 hm h0).mono ?_
      rintro e W1 ⟨rfl, hb1⟩
      go_wp2_with fail
      refine (sub_ok x (r / s * y % m) m _ h4 (by omega) hm h0).mono ?_
      rintro e W2 ⟨rfl, hb2⟩
      go_wp2
      go_roundw
      case rel =>
        refine ⟨f, s, r % s, y, subN x (r / s * y % m) m, h3, by omega, by omega, h5, by omega, rfl, ?_, rfl, rfl, by rw [← H6.out, HS.out], ?_⟩
        · norm_cast
        · refine (below_drewN h7 ?_).trans ?_
          rotate_left
          · exact (hb1.mono h7.size).trans (hb2.mono (Nat.le_trans h7.size hb1.size))
      case measure => simp [intOf]; omega
    · obtain rfl : s = 0 := by omega
      by_cases hr : r = 1
      · subst hr
        go_wp2
        go_ret2
        have := H6.out
        rw [invF_zero] at this
        exact ⟨by unfold InvEnds; rw [← this]; rfl, h7⟩
      · have g5 : ((r : Int) != 1) = true := by rw [bne_iff_ne]; omega
        go_wp2
        go_ret2
        have := H6.out
        rw [invF_zero] at this
        exact ⟨by unfold InvEnds; rw [← this, if_neg hr]; rfl, h7⟩
end Go.Proofs.Mdl

namespace Go.Am
open Go.RowKit Go.MapKept Go.Proofs Go.Proofs.Mdl
/-- numbers that may be: three, each of 64 bits, the last one not 0, and of 32 bits at most -/
noncomputable def mod3K (args : List Value) (k : Nat → Nat → Nat → Bool) : Bool :=
  match args with
  | [.int .u64 (.ofNat a), .int .u64 (.ofNat b), .int .u64 (.ofNat m)] => match Nat.blt a 18446744073709551616, Nat.blt b 18446744073709551616, Nat.ble m 4294967296, Nat.blt 0 m with
    | true, true, true, true => k a b m
    | _, _, _, _ => false
  | _ => false
noncomputable def ov3 (g : Nat → Nat → Nat → Nat) (args : List Value) (σ : St) (K : VK) : Bool := mod3K args fun a b m => forceN (g a b m) fun n => K (.int .u64 (.ofNat n)) σ
noncomputable def powK (e : Nat) (out a m : Nat) (k : Nat → Bool) : Bool :=
  nrec (β := Nat → Nat → Nat → Bool) (fun out _ _ => k out) (fun _ ih out a e => match Nat.beq e 0 with
    | true => k out
    | false => match Nat.beq (Nat.mod e 2) 1 with
      | true => forceN (Nat.mod (Nat.mul out a) m) fun out => forceN (Nat.mod (Nat.mul a a) m) fun a => forceN (Nat.div e 2) fun e => ih out a e
      | false => forceN (Nat.mod (Nat.mul a a) m) fun a => forceN (Nat.div e 2) fun e => ih out a e) 64 out a e
noncomputable def ovPow (args : List Value) (σ : St) (K : VK) : Bool := mod3K args fun a e m => powK e (Nat.mod 1 m) a m fun n => K (.int .u64 (.ofNat n)) σ
noncomputable def invK (f : Nat) (r s x y m : Nat) (k : Nat → Nat → Bool) : Bool :=
  nrec (β := Nat → Nat → Nat → Nat → Bool) (fun r _ x _ => k r x) (fun _ ih r s x y => match Nat.beq s 0 with
    | true => k r x
    | false => forceN (Nat.mod r s) fun s' => forceN (subN x (Nat.mod (Nat.mul (Nat.div r s) y) m) m) fun y' => ih s s' y y') f r s x y
noncomputable def ovInv (args : List Value) (σ : St) (K : VK) : Bool :=
  match args with
  | [.int .u64 (.ofNat a), .int .u64 (.ofNat m)] => match Nat.blt a 18446744073709551616, Nat.ble m 4294967296, Nat.blt 0 m with
    | true, true, true => forceN (Nat.mod a m) fun s => invK (Nat.succ s) m s 0 (Nat.mod 1 m) m fun r x => match Nat.beq r 1 with
      | true => K (.tuple ⟨[.int .u64 (.ofNat x), .int .i64 (.ofNat 0)]⟩) σ
      | false => K (.tuple ⟨[.int .u64 (.ofNat 0), .int .i64 (.ofNat 5)]⟩) σ
    | _, _, _ => false
  | _ => false
theorem powK_eq {m : Nat} {k : Nat → Bool} : ∀ (f out a e : Nat), nrec (β := Nat → Nat → Nat → Bool) (fun out _ _ => k out) (fun _ ih out a e => match Nat.beq e 0 with
    | true => k out
    | false => match Nat.beq (Nat.mod e 2) 1 with
      | true => forceN (Nat.mod (Nat.mul out a) m) fun out => forceN (Nat.mod (Nat.mul a a) m) fun a => forceN (Nat.div e 2) fun e => ih out a e
      | false => forceN (Nat.mod (Nat.mul a a) m) fun a => forceN (Nat.div e 2) fun e => ih out a e) f out a e = k (powF f out a e m) := by
  intro f
  induction f with
  | zero => intro out a e; rfl
  | succ f ih =>
    intro out a e
    show (match Nat.beq e 0 with
      | true => k out
      | false => match Nat.beq (Nat.mod e 2) 1 with
        | true => forceN (Nat.mod (Nat.mul out a) m) fun out => forceN (Nat.mod (Nat.mul a a) m) fun a => forceN (Nat.div e 2) fun e => nrec (β := Nat → Nat → Nat → Bool) _ _ f out a e
        | false => forceN (Nat.mod (Nat.mul a a) m) fun a => forceN (Nat.div e 2) fun e => nrec (β := Nat → Nat → Nat → Bool) _ _ f out a e) = k (match Nat.beq e 0 with
      | true => out
      | false => powF f (match Nat.beq (e % 2) 1 with | true => out * a % m | false => out) (a * a % m) (e / 2) m)
    cases Nat.beq e 0 with
    | true => rfl
    | false =>
      show (match Nat.beq (e % 2) 1 with | true => _ | false => _) = _
      cases Nat.beq (e % 2) 1 with
      | true =>
        show forceN (Nat.mod (Nat.mul out a) m) (fun out => forceN (Nat.mod (Nat.mul a a) m) fun a => forceN (Nat.div e 2) fun e => nrec (β := Nat → Nat → Nat → Bool) _ _ f out a e) = _
        rw [forceN_eq, forceN_eq, forceN_eq]; exact ih _ _ _
      | false =>
        show forceN (Nat.mod (Nat.mul a a) m) (fun a => forceN (Nat.div e 2) fun e => nrec (β := Nat → Nat → Nat → Bool) _ _ f out a e) = _
        rw [forceN_eq, forceN_eq]; exact ih _ _ _
theorem invK_eq {m : Nat} {k : Nat → Nat → Bool} : ∀ (f r s x y : Nat), invK f r s x y m k = k (invF f r s x y m).1 (invF f r s x y m).2 := by
  intro f
  induction f with
  | zero => intro r s x y; rfl
  | succ f ih =>
    intro r s x y
    show (match Nat.beq s 0 with
      | true => k r x
      | false => forceN (Nat.mod r s) fun s' => forceN (subN x (Nat.mod (Nat.mul (Nat.div r s) y) m) m) fun y' => invK f s s' y y' m k) = k (match Nat.beq s 0 with
      | true => (r, x)
      | false => invF f s (r % s) y (subN x (r / s * y % m) m) m).1 (match Nat.beq s 0 with
      | true => (r, x)
      | false => invF f s (r % s) y (subN x (r / s * y % m) m) m).2
    cases Nat.beq s 0 with
    | true => rfl
    | false => simp only [forceN_eq]; exact ih _ _ _ _
section
variable {w0 : World} {ρ : Rn} {σ : St} {w : World}
theorem mod3K_true {args args' : List Value} {k : Nat → Nat → Nat → Bool} (hk : mod3K args k = true) (ha : VRs ρ args args') : ∃ a b m : Nat, args' = [.int .u64 a, .int .u64 b, .int .u64 m] ∧ a < 18446744073709551616 ∧ b < 18446744073709551616 ∧ m ≤ 4294967296 ∧ 0 < m ∧ k a b m = true := by
  unfold mod3K at hk
  split at hk
  · rename_i a b m
    obtain ⟨a', t, rfl, h1, h2⟩ := ha.inv_cons
    obtain ⟨b', t, rfl, h3, h4⟩ := h2.inv_cons
    obtain ⟨c', t, rfl, h5, h6⟩ := h4.inv_cons
    cases h6.inv_nil
    cases h1.of_flat rfl
    cases h3.of_flat rfl
    cases h5.of_flat rfl
    split at hk
    · rename_i g1 g2 g3 g4
      exact ⟨a, b, m, rfl, Nat.le_of_ble_eq_true g1, Nat.le_of_ble_eq_true g2, Nat.le_of_ble_eq_true g3, Nat.le_of_ble_eq_true g4, hk⟩
    · cases hk
  · cases hk
theorem ov3_ok {f : FuncId} {g : Nat → Nat → Nat → Nat} (he : ∀ args w, (callFunc f args).run Tryz.prog w = .ok (.enter f args) w)
    (C : ∀ (a b m : Nat) (w : World), a < 18446744073709551616 → b < 18446744073709551616 → m ≤ 4294967296 → 0 < m → Calls Tryz.prog f #[.int .u64 a, .int .u64 b, .int .u64 m] w fun e w' => e = .returned (.int .u64 (g a b m : Nat)) ∧ Below w.heap.size w w') :
    CallOk Tryz.prog w0 (fun f' args σ K => match Nat.beq f' f with | true => ov3 g args σ K | false => false) := by
  intro f' args σ K ρ w args' hk h ha
  dsimp only at hk
  split at hk
  · rename_i hf'
    obtain rfl : f' = f := by simpa using hf'
    refine ⟨he ⟨args'⟩, ?_⟩
    obtain ⟨a, b, m, rfl, h1, h2, h3, h4, hk⟩ := mod3K_true hk ha
    rw [forceN_eq] at hk
    refine callsIn_wide.2 ((C a b m w h1 h2 h3 h4).mono ?_)
    rintro e w' ⟨rfl, hb⟩
    obtain ⟨q1, q2⟩ := h.below hb
    exact ⟨_, rfl, ρ, _, σ, hk, .flat rfl, q1, q2⟩
  · cases hk
theorem ovPow_ok : CallOk Tryz.prog w0 (fun f' args σ K => match Nat.beq f' 205 with | true => ovPow args σ K | false => false) := by
  intro f' args σ K ρ w args' hk h ha
  dsimp only at hk
  split at hk
  · rename_i hf'
    obtain rfl : f' = 205 := by simpa using hf'
    refine ⟨enters_of Tryz.func205 (by kernel_rfl) rfl ⟨args'⟩, ?_⟩
    obtain ⟨a, b, m, rfl, h1, h2, h3, h4, hk⟩ := mod3K_true hk ha
    have hk : K (.int .u64 (.ofNat (powF 64 (1 % m) a b m))) σ = true := (powK_eq (k := fun n => K (.int .u64 (.ofNat n)) σ) 64 (1 % m) a b).symm.trans hk
    refine callsIn_wide.2 ((pow_ok a b m w h1 h2 h4 h3).mono ?_)
    rintro e w' ⟨rfl, hb⟩
    obtain ⟨q1, q2⟩ := h.below hb
    exact ⟨_, rfl, ρ, _, σ, hk, .flat rfl, q1, q2⟩
  · cases hk
theorem ovInv_ok : CallOk Tryz.prog w0 (fun f' args σ K => match Nat.beq f' 362 with | true => ovInv args σ K | false => false) := by
  intro f' args σ K ρ w args' hk h ha
  dsimp only at hk
  split at hk
  · rename_i hf'
    obtain rfl : f' = 362 := by simpa using hf'
    refine ⟨enters_of Tryz.func362 (by kernel_rfl) rfl ⟨args'⟩, ?_⟩
    unfold ovInv at hk
    split at hk
    · rename_i a m
      obtain ⟨a', t, rfl, h1, h2⟩ := ha.inv_cons
      obtain ⟨c', t, rfl, h3, h4⟩ := h2.inv_cons
      cases h4.inv_nil
      cases h1.of_flat rfl
      cases h3.of_flat rfl
      split at hk
      · rename_i g1 g2 g3
        have g1 := Nat.le_of_ble_eq_true g1
        have g2 := Nat.le_of_ble_eq_true g2
        have g3 := Nat.le_of_ble_eq_true g3
        rw [forceN_eq, invK_eq] at hk
        refine callsIn_wide.2 ((inv_ok a m w g1 g3 g2).mono ?_)
        rintro e w' ⟨he, hbe⟩
        obtain ⟨q1, q2⟩ := h.below hbe
        unfold InvEnds at he
        by_cases hr : (invF (a % m + 1) m (a % m) 0 (1 % m) m).1 = 1
        · have hb : Nat.beq (invF (Nat.succ (Nat.mod a m)) m (Nat.mod a m) 0 (Nat.mod 1 m) m).1 1 = true := by
            show Nat.beq (invF (a % m + 1) m (a % m) 0 (1 % m) m).1 1 = true
            rw [hr]; rfl
          rw [hb] at hk
          rw [if_pos hr] at he
          subst he
          exact ⟨_, rfl, ρ, _, σ, hk, .mk_tuple (.cons (.flat rfl) (.cons (.flat rfl) (.nil ρ))), q1, q2⟩
        · have hb : Nat.beq (invF (Nat.succ (Nat.mod a m)) m (Nat.mod a m) 0 (Nat.mod 1 m) m).1 1 = false := by
            cases hq : Nat.beq (invF (Nat.succ (Nat.mod a m)) m (Nat.mod a m) 0 (Nat.mod 1 m) m).1 1 with
            | false => rfl
            | true => exact absurd (Nat.eq_of_beq_eq_true hq) hr
          rw [hb] at hk
          rw [if_neg hr] at he
          subst he
          exact ⟨_, rfl, ρ, _, σ, hk, .mk_tuple (.cons (.flat rfl) (.cons (.flat rfl) (.nil ρ))), q1, q2⟩
      · cases hk
    · cases hk
  · cases hk
/-- all of them on top of others -/
noncomputable def ovMod (ov : FuncId → Option (List Value → St → VK → Bool)) : FuncId → Option (List Value → St → VK → Bool) :=
  ovWith 145 (ov3 fun a b m => a * b % m) (ovWith 144 (ov3 fun a b m => (a % m + b % m) % m) (ovWith 173 (ov3 subN) (ovWith 205 ovPow (ovWith 362 ovInv ov))))
theorem ovMod_ok {ov : FuncId → Option (List Value → St → VK → Bool)} (h : OvOk Tryz.prog w0 ov) : OvOk Tryz.prog w0 (ovMod ov) :=
  ovWith_ok (ov3_ok (enters_of Tryz.func145 (by kernel_rfl) rfl) fun a b m w h1 h2 h3 h4 => mul_ok a b m w h1 h2 h3 h4)
    (ovWith_ok (ov3_ok (enters_of Tryz.func144 (by kernel_rfl) rfl) fun a b m w h1 h2 h3 h4 => add_ok a b m w h1 h2 h3 h4)
      (ovWith_ok (ov3_ok (enters_of Tryz.func173 (by kernel_rfl) rfl) fun a b m w h1 h2 h3 h4 => sub_ok a b m w h1 h2 h3 h4)
        (ovWith_ok ovPow_ok (ovWith_ok ovInv_ok h))))
end
end Go.Am
