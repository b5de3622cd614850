/- AM: operations of which the types are made out: what a function's code does, as it is written out for open statements. -/
import Derived.Test.YtbockfpeohfphaaAmc
import GoSem.ClaimJoined

namespace Go.Am
open Go.RowKit Go.MapKept

noncomputable def rIf (c : Value) (a b : Bool) : Bool := match c with | .bool v => bcase v a b | _ => false
noncomputable def rPick (c a b : Value) (K : Value → Bool) : Bool := match c with
  | .bool true => K a
  | .bool false => K b
  | _ => false
noncomputable def rLd (a : Value) (σ : St) (K : VK) : Bool := match a with
  | .pointer (some ⟨i, o, none⟩) => cellsK σ i fun vs _ _ => nthK vs o fun v => K v σ
  | _ => false
noncomputable def rLdN (n : Nat) (a : Value) (σ : St) (K : VK) : Bool := match a with
  | .pointer (some ⟨i, o, none⟩) => readK σ i o n fun l => K (.agg ⟨l⟩) σ
  | _ => false
noncomputable def rSt (n : Nat) (a x : Value) (σ : St) (k : St → Bool) : Bool := match a with
  | .pointer (some ⟨i, o, none⟩) => cellsOfK x fun cs => lenK cs fun m => match Nat.beq m n with
    | true => writeK σ i o cs k
    | false => false
  | _ => false
noncomputable def rAlloc (zero : List Value) (t : TypeId) (σ : St) (K : VK) : Bool := layK zero fun zero => newK σ (.cells zero t .exact) fun i σ => K (.pointer (some ⟨i, 0, none⟩)) σ
noncomputable def rFill (parts : List (Nat × Nat × Value)) (cells : List Value) (k : List Value → Bool) : Bool :=
  lrec (β := List Value → Bool) (fun cs => k cs) (fun p _ ih cs => cellsOfK p.2.2 fun new => lenK new fun m => match Nat.beq m p.2.1 with
    | true => spliceK p.1 new cs ih
    | false => false) parts cells
noncomputable def rBuild (zero : List Value) (parts : List (Nat × Nat × Value)) (K : Value → Bool) : Bool := rFill parts zero fun cs => K (.agg ⟨cs⟩)
noncomputable def rBuildS (elem : TypeId) (n : Nat) (zero : List Value) (parts : List (Nat × Nat × Value)) (σ : St) (K : VK) : Bool :=
  repK zero n fun cs => rFill parts cs fun cs => newK σ (.cells cs elem .exact) fun i σ => K (.slice (some ⟨i, 0, none⟩) n n) σ
noncomputable def rFld (off : Nat) (x : Value) (K : Value → Bool) : Bool := match x with
  | .pointer (some ⟨b, o, none⟩) => forceN (o + off) fun o => K (.pointer (some ⟨b, o, none⟩))
  | _ => false
noncomputable def rField (off : Nat) (x : Value) (K : Value → Bool) : Bool := match x with
  | .agg cs => nthK cs.toList off K
  | _ => false
noncomputable def rFieldN (off n : Nat) (x : Value) (K : Value → Bool) : Bool := match x with
  | .agg cs => dropK off cs.toList fun l => takeK n l fun l => K (.agg ⟨l⟩)
  | _ => false
noncomputable def rIdx (size : Nat) (x ix : Value) (K : Value → Bool) : Bool := match ix with
  | .int _ (.ofNat i) => match x with
    | .slice (some ⟨b, o, sp⟩) len _ => match sp with
      | some (_ + 1) => false
      | _ => match Nat.blt i len with
        | true => forceN (o + i * size) fun o => K (.pointer (some ⟨b, o, none⟩))
        | false => false
    | _ => false
  | _ => false
noncomputable def rStrAt (x ix : Value) (K : Value → Bool) : Bool := match ix with
  | .int _ (.ofNat i) => match x with
    | .string s => nthK s.data.toList i fun b => forceN b.toNat fun n => K (.int .u8 (.ofNat n))
    | _ => false
  | _ => false
noncomputable def rExt (i : Nat) (x : Value) (K : Value → Bool) : Bool := match x with
  | .tuple vs => nthK vs.toList i fun v => K v
  | _ => false
noncomputable def rInt (k : IntKind) (x : Value) (K : Value → Bool) : Bool := match x with
  | .int _ n => intK k n fun v => K v
  | _ => false
noncomputable def rLenS (x : Value) (K : Value → Bool) : Bool := match x with
  | .slice _ n _ => K (.int .i64 (.ofNat n))
  | _ => false
noncomputable def rLenT (x : Value) (K : Value → Bool) : Bool := match x with
  | .string s => lenK s.data.toList fun n => K (.int .i64 (.ofNat n))
  | _ => false
noncomputable def rApp (P : Program) (elem : TypeId) (size bytes : Nat) (s x : Value) (σ : St) (K : VK) : Bool := match s with
  | .slice base sLen sCap => lenVK x fun n => match n with
    | 0 => match Nat.ble sLen sCap with | true => K (.slice base sLen sCap) σ | false => false
    | n' + 1 => firstK σ size (n' + 1) x fun new => forceN (sLen + (n' + 1)) fun need =>
      match Nat.ble (need * (bytes + 1)) 1099511627776 with
      | true => match Nat.ble need sCap with
        | true => inRowK size new base sLen sCap need σ K
        | false => newRowK P elem size new base sLen need σ K
      | false => false
  | _ => false
noncomputable def rNil (P : Program) (v : Value) (K : Value → Bool) : Bool := match v with
  | .pointer (some a) => K (.pointer (some a))
  | .func (.func f) a b => K (.func (.func f) a b)
  | .func (.yield f) a b => K (.func (.yield f) a b)
  | .func (.method s) ⟨[.iface t w]⟩ ⟨[]⟩ => match methT P t s with
    | some _ => K (.func (.method s) ⟨[.iface t w]⟩ ⟨[]⟩)
    | none => false
  | .iface t w => K (.iface t w)
  | _ => false
noncomputable def rCallV (call : CallT) (round : Nat → List Value → St → VK → Bool) (f : Value) (args : List Value) (σ : St) (K : VK) : Bool := match f with
  | .func (.func g) first captured => appK first.toList args fun l => appK l captured.toList fun l => call g l σ K
  | .func (.yield l) first captured => match first.toList, captured.toList with
    | [], [] => round l args σ K
    | _, _ => false
  | _ => false
noncomputable def rInv (P : Program) (call : CallT) (r : Value) (m : String) (args : List Value) (σ : St) (K : VK) : Bool := match r with
  | .iface t v => match methT P t m with
    | some g => call g (v :: args) σ K
    | none => false
  | _ => false
noncomputable def rWant (w : Bool) (v : Value) (k : Bool → Bool) : Bool := match v with
  | .bool b => match b, w with | true, true | false, false => k true | _, _ => k false
  | _ => k false
noncomputable def rSame (v u : Value) (k : Bool) : Bool := match sameV v u with | true => k | false => false
noncomputable def rAssert (P : Program) (as : TypeId) (ok : Bool) (v : Value) (K : Value → Bool) : Bool := match v, P.underlying as with
  | .iface _ _, some (.interface _) => false
  | .iface t w, some _ => match Nat.beq t as, ok with
    | true, true => K (.tuple ⟨[w, .bool true]⟩)
    | true, false => K w
    | false, _ => false
  | _, _ => false
end Go.Am
namespace Go.Am
open Go.RowKit Go.MapKept
noncomputable def rGuard (w : Bool) (v : Value) (op : VK → Bool) (σ : St) (k : VK) : Bool := rWant w v fun b => bcase b (op k) (k undef σ)
noncomputable def rUnd (u : Value) (k : Bool) : Bool := match u with | .tuple ⟨[]⟩ => k | _ => false
noncomputable def rGuardC (w : Bool) (v u : Value) (op : Bool → Bool) (k : Bool) : Bool := rWant w v fun b => bcase b (op k) (rUnd u k)
end Go.Am
namespace Go.Am
noncomputable def rBin (P : Program) (op : BinOp) (t : TypeId) (a b : Value) (K : Value → Bool) : Bool := (binW P op).f t a b K
theorem rBin_eq (P : Program) (op : BinOp) (t : TypeId) (a b : Value) (K : Value → Bool) : rBin P op t a b K = binK P op t a b K := binW_eq P op t a b K
end Go.Am

namespace Go.Am
open Go.RowKit Go.MapKept
section
variable {P : Program}
theorem loadK_one {t : TypeId} (h : isAggT P t = some false) (a : Value) (σ : St) (K : VK) : loadK P t a σ K = rLd a σ K := by
  unfold loadK rLd; simp only [h] <;> rfl
theorem loadK_agg {t : TypeId} {n : Nat} (h : isAggT P t = some true) (hn : sizeT P t = some n) (a : Value) (σ : St) (K : VK) : loadK P t a σ K = rLdN n a σ K := by
  unfold loadK rLdN; simp only [h, hn] <;> rfl
theorem storeK_r {t : TypeId} {n : Nat} (hn : sizeT P t = some n) (a x : Value) (σ : St) (k : St → Bool) : storeK P t a x σ k = rSt n a x σ k := by
  unfold storeK rSt; simp only [hn] <;> rfl
theorem allocK_r {t : TypeId} {z : List Value} (hz : zeroT P t = some z) (hf : allB flat0 z = true) (σ : St) (K : VK) : allocK P t σ K = rAlloc z t σ K := by
  unfold allocK rAlloc; simp only [hz, hf]
theorem fieldAddrK_r {s : TypeId} {f : Nat} {fd : Field} {n : Nat} (hf : fieldOf P s f = some fd) (hn : sizeT P fd.type = some (n + 1)) (x : Value) (K : Value → Bool) : fieldAddrK P s x f K = rFld fd.offset x K := by
  unfold fieldAddrK rFld; simp only [hf, hn] <;> rfl
theorem fieldK_one {t : TypeId} {f : Nat} {fd : Field} (hf : fieldOf P t f = some fd) (h : isAggT P fd.type = some false) (x : Value) (K : Value → Bool) : fieldK P t x f K = rField fd.offset x K := by
  unfold fieldK rField; simp only [hf, partK, h] <;> rfl
theorem fieldK_agg {t : TypeId} {f : Nat} {fd : Field} {n : Nat} (hf : fieldOf P t f = some fd) (h : isAggT P fd.type = some true) (hn : sizeT P fd.type = some n) (x : Value) (K : Value → Bool) : fieldK P t x f K = rFieldN fd.offset n x K := by
  unfold fieldK rFieldN; simp only [hf, partK, h, hn] <;> rfl
theorem indexAddrK_s {t e : TypeId} {n : Nat} (he : isSlice P t = some e) (hn : sizeT P e = some n) (x ix : Value) (K : Value → Bool) : indexAddrK P t x ix K = rIdx n x ix K := by
  unfold indexAddrK rIdx; simp only [he, hn, isSlice_und he]
  cases ix <;> first | rfl | skip
  rename_i kk i
  cases i <;> first | rfl | skip
  rename_i i
  cases x <;> first | rfl | skip
  · rename_i b; cases b <;> first | rfl | (rename_i a; obtain ⟨b, o, sp⟩ := a; cases sp <;> rfl)
  · rename_i b len cap; cases b with
    | none => rfl
    | some a =>
      obtain ⟨b, o, sp⟩ := a
      match sp with
      | none => simp only; cases Nat.blt i len <;> rfl
      | some 0 => simp only; cases Nat.blt i len <;> rfl
      | some (_ + 1) => rfl
theorem lenK_s {t e : TypeId} (he : isSlice P t = some e) (x : Value) (σ : St) (K : VK) : builtinK P .len [t] [x] σ K = rLenS x fun v => K v σ := by
  have hu := isSlice_und he
  have hm : mapT P t = none := by unfold mapT; rw [hu]
  cases x <;> simp only [builtinK, rLenS, he, hu, hm]
theorem lenK_t {t : TypeId} (hu : P.underlying t = some .string) (x : Value) (σ : St) (K : VK) : builtinK P .len [t] [x] σ K = rLenT x fun v => K v σ := by
  have hs : isSlice P t = none := by unfold isSlice; rw [hu]
  have hm : mapT P t = none := by unfold mapT; rw [hu]
  cases x <;> simp only [builtinK, rLenT, hs, hu, hm]
theorem appendK_r {sT xT el : TypeId} {info : TypeInfo} {n : Nat} {z : Value} (h1 : isSlice P sT = some el) (h2 : catT (P.underlying xT) = true) (h3 : P.info? el = some info) (h4 : info.size = n + 1) (h5 : info.zero = some z) (h6 : Nat.beq z.cells.size (n + 1) = true)
    (s x : Value) (σ : St) (K : VK) : appendK P [sT, xT] s x σ K = rApp P el (n + 1) info.bytes s x σ K := by
  unfold appendK rApp; simp only [h1, h2, h3, h4, h5]
  cases s <;> simp only [h6] <;> rfl
end
/-- as it is -/
noncomputable def fbk (o : Oper) : OpW := ⟨fun E A σ K => opK E o A σ K⟩
structure PtW where
  f : AAct → (List (Nat × Nat × Value) → Bool) → Bool
noncomputable def partsX (place : Nat → Option (Nat × Nat)) (ps : List (Nat × Operand)) : PtW :=
  lrec (β := PtW) ⟨fun _ k => k []⟩ (fun p _ ih => match place p.1 with
    | some (off, size) => ⟨fun A k => (evW p.2).f A fun v => ih.f A fun l => k ((off, size, v) :: l)⟩
    | none => ⟨fun _ _ => false⟩) ps
def addP (place : Nat → Option (Nat × Nat)) (p : Nat × Value) : Nat × Nat × Value := match place p.1 with | some (off, size) => (off, size, p.2) | none => (0, 0, p.2)
theorem partsX_map (place : Nat → Option (Nat × Nat)) (A : AAct) : ∀ (ps : List (Nat × Operand)) (k : List (Nat × Nat × Value) → Bool), (∀ p ∈ ps, (place p.1).isSome = true) → (partsX place ps).f A k = partsK A ps fun l => k (l.map (addP place)) := by
  intro ps
  induction ps with
  | nil => intro k _; rfl
  | cons p ps ih =>
    intro k h
    have hp := h p (.head _)
    obtain ⟨⟨off, size⟩, hq⟩ := Option.isSome_iff_exists.1 hp
    have e1 : partsX place (p :: ps) = ⟨fun A k => (evW p.2).f A fun v => (partsX place ps).f A fun l => k ((off, size, v) :: l)⟩ := by
      unfold partsX; rw [lrec_cons]; simp only [hq]
    rw [e1]
    show (evW p.2).f A _ = evK A p.2 fun v => partsK A ps fun l => k (((p.1, v) :: l).map (addP place))
    rw [evW_eq]
    congr 1
    funext v
    have e : ∀ l : List (Nat × Value), ((p.1, v) :: l).map (addP place) = (off, size, v) :: l.map (addP place) := fun l => by simp [addP, hq]
    simp only [e]
    exact ih (fun l => k ((off, size, v) :: l)) (fun q hq => h q (.tail _ hq))
theorem partsK_congr (A : AAct) : ∀ (ps : List (Nat × Operand)) (k k' : List (Nat × Value) → Bool), (∀ l, l.map Prod.fst = ps.map Prod.fst → k l = k' l) → partsK A ps k = partsK A ps k' := by
  intro ps
  induction ps with
  | nil => intro k k' h; exact h [] rfl
  | cons p ps ih =>
    intro k k' h
    show (evK A p.2 fun v => partsK A ps fun l => k ((p.1, v) :: l)) = evK A p.2 fun v => partsK A ps fun l => k' ((p.1, v) :: l)
    congr 1
    funext v
    exact ih _ _ fun l hl => h _ (by simp [hl])
theorem fillK_r (place : Nat → Option (Nat × Nat)) (k : List Value → Bool) : ∀ (l : List (Nat × Value)) (cs : List Value), (∀ p ∈ l, (place p.1).isSome = true) → fillK place l cs k = rFill (l.map (addP place)) cs k := by
  intro l
  induction l with
  | nil => intro cs _; rfl
  | cons p l ih =>
    intro cs h
    obtain ⟨⟨off, size⟩, hq⟩ := Option.isSome_iff_exists.1 (h p (.head _))
    have e1 : fillK place (p :: l) cs k = match place p.1 with
      | some (off, size) => cellsOfK p.2 fun new => lenK new fun m => match Nat.beq m size with
        | true => spliceK off new cs fun cs => fillK place l cs k
        | false => false
      | none => false := rfl
    have e2 : rFill ((off, size, p.2) :: l.map (addP place)) cs k = cellsOfK p.2 fun new => lenK new fun m => match Nat.beq m size with
        | true => spliceK off new cs fun cs => rFill (l.map (addP place)) cs k
        | false => false := rfl
    have e3 : (p :: l).map (addP place) = (off, size, p.2) :: l.map (addP place) := by simp [addP, hq]
    have ih' : (fun cs => fillK place l cs k) = fun cs => rFill (l.map (addP place)) cs k := by funext cs; exact ih cs fun q hq => h q (.tail _ hq)
    rw [e1, e3, e2, hq, ih']
theorem build_r (place : Nat → Option (Nat × Nat)) (A : AAct) (ps : List (Nat × Operand)) (cs : List Value) (k : List Value → Bool) (h : ∀ p ∈ ps, (place p.1).isSome = true) :
    (partsK A ps fun l => fillK place l cs k) = (partsX place ps).f A fun l => rFill l cs k := by
  rw [partsX_map place A ps _ h]
  refine partsK_congr A ps _ _ fun l hl => fillK_r place k l cs fun p hp => ?_
  have : p.1 ∈ ps.map Prod.fst := by rw [← hl]; exact List.mem_map.2 ⟨p, hp, rfl⟩
  obtain ⟨q, hq, e⟩ := List.mem_map.1 this
  rw [← e]; exact h q hq
noncomputable def callX (P : Program) (c : Call) : OpW :=
  match c.callee with
  | .builtin .len => match c.argTypes.toList, c.args.toList with
    | [t], [a] => match isSlice P t, P.underlying t with
      | some _, _ => ⟨fun _ A σ K => (evW a).f A fun v => rLenS v fun v => K v σ⟩
      | none, some .string => ⟨fun _ A σ K => (evW a).f A fun v => rLenT v fun v => K v σ⟩
      | _, _ => callW P c
    | _, _ => callW P c
  | .builtin .append => match c.argTypes.toList, c.args.toList with
    | [sT, xT], [a, b] => match isSlice P sT, catT (P.underlying xT) with
      | some el, true => match P.info? el with
        | some info => match info.size, info.zero with
          | n + 1, some z => match Nat.beq z.cells.size (n + 1) with
            | true => ⟨fun _ A σ K => (evW a).f A fun a => (evW b).f A fun b => rApp P el (n + 1) info.bytes a b σ K⟩
            | false => callW P c
          | _, _ => callW P c
        | none => callW P c
      | _, _ => callW P c
    | _, _ => callW P c
  | .builtin _ => callW P c
  | .value f => ⟨fun E A σ K => (evsW c.args.toList).f A fun args => (evW f).f A fun f => rCallV E.call E.round f args σ K⟩
  | .invoke r m => ⟨fun E A σ K => (evsW c.args.toList).f A fun args => (evW r).f A fun v => rInv P E.call v m args σ K⟩
theorem callX_eq (E : Env) (c : Call) (A : AAct) (σ : St) (K : VK) : (callX E.P c).f E A σ K = callOpK E A c σ K := by
  unfold callX
  split
  · rename_i hc
    split
    · rename_i t a ht ha
      split
      · rename_i _ _ e hs
        unfold callOpK
        rw [hc, ha, ht]
        simp only [evW_eq, evsK, lrec_cons, lrec_nil, lenK_s hs]
      · rename_i _ _ hs hu
        unfold callOpK
        rw [hc, ha, ht]
        simp only [evW_eq, evsK, lrec_cons, lrec_nil, lenK_t hu]
      · exact callW_eq E c A σ K
    · exact callW_eq E c A σ K
  · rename_i hc
    split
    · rename_i sT xT a b ht ha
      split
      · rename_i el hs hx
        split
        · rename_i info hi
          split
          · rename_i n z hn hz
            split
            · rename_i hzs
              unfold callOpK
              rw [hc, ha, ht]
              simp only [evW_eq, evsK, lrec_cons, lrec_nil]
              congr 1; funext a; congr 1; funext b
              exact (appendK_r hs hx hi hn hz hzs a b σ K).symm
            · exact callW_eq E c A σ K
          · exact callW_eq E c A σ K
        · exact callW_eq E c A σ K
      · exact callW_eq E c A σ K
    · exact callW_eq E c A σ K
  · exact callW_eq E c A σ K
  · rename_i f hc
    unfold callOpK
    rw [hc]
    simp only [evsW_eq, evW_eq] <;> rfl
  · rename_i r m hc
    unfold callOpK
    rw [hc]
    simp only [evsW_eq, evW_eq] <;> rfl
noncomputable def opX (P : Program) (o : Oper) : OpW :=
  match o.op with
  | .pick c a b => ⟨fun _ A σ K => (evW c).f A fun c => (evW a).f A fun a => (evW b).f A fun b => rPick c a b fun v => K v σ⟩
  | .alloc t => match zeroT P t with
    | some z => match allB flat0 z with
      | true => ⟨fun _ _ σ K => rAlloc z t σ K⟩
      | false => fbk o
    | none => fbk o
  | .build t ps => match zeroT P t, P.underlying t with
    | some zero, some (.struct fields) => match placesOf P fields.toList with
      | some pl => match allB flat0 zero, ps.toList.all fun p => (pl[p.1]?).isSome with
        | true, true => ⟨fun _ A σ K => (partsX (pl[·]?) ps.toList).f A fun l => rBuild zero l fun v => K v σ⟩
        | _, _ => fbk o
      | none => fbk o
    | some zero, some (.array _ elem) => match sizeT P elem with
      | some size => match allB flat0 zero with
        | true => ⟨fun _ A σ K => (partsX (fun i => some (i * size, size)) ps.toList).f A fun l => rBuild zero l fun v => K v σ⟩
        | false => fbk o
      | none => fbk o
    | _, _ => fbk o
  | .buildSlice t len ps => match isSlice P t with
    | some elem => match sizeT P elem, zeroT P elem with
      | some (size + 1), some zero => match Nat.ble (len * (size + 1)) 16777216, Nat.beq zero.length (size + 1) with
        | true, true => match allB flat0 zero with
          | true => ⟨fun _ A σ K => repK zero len fun cs => (partsX (fun i => some (i * (size + 1), size + 1)) ps.toList).f A fun l => rFill l cs fun cs => newK σ (.cells cs elem .exact) fun i σ => K (.slice (some ⟨i, 0, none⟩) len len) σ⟩
          | false => fbk o
        | _, _ => fbk o
      | _, _ => fbk o
    | none => fbk o
  | .load t a => match isAggT P t, sizeT P t with
    | some false, _ => ⟨fun _ A σ K => (evW a).f A fun a => rLd a σ K⟩
    | some true, some n => ⟨fun _ A σ K => (evW a).f A fun a => rLdN n a σ K⟩
    | _, _ => fbk o
  | .store t a x => match sizeT P t with
    | some n => ⟨fun _ A σ K => (evW a).f A fun a => (evW x).f A fun x => rSt n a x σ fun σ => K undef σ⟩
    | none => fbk o
  | .nilCheck x => ⟨fun _ A σ K => (evW x).f A fun v => rNil P v fun v => K v σ⟩
  | .binOp op t x y _ => ⟨fun _ A σ K => (evW x).f A fun a => (evW y).f A fun b => rBin P op t a b fun v => K v σ⟩
  | .convert s d x => match P.underlying s, P.underlying d with
    | some (.int _), some (.int k) => ⟨fun _ A σ K => (evW x).f A fun a => rInt k a fun v => K v σ⟩
    | _, _ => opW P o
  | .fieldAddr s x f => match fieldOf P s f with
    | some fd => match sizeT P fd.type with
      | some (_ + 1) => ⟨fun _ A σ K => (evW x).f A fun x => rFld fd.offset x fun v => K v σ⟩
      | _ => opW P o
    | none => opW P o
  | .field t x f => match fieldOf P t f with
    | some fd => match isAggT P fd.type, sizeT P fd.type with
      | some false, _ => ⟨fun _ A σ K => (evW x).f A fun x => rField fd.offset x fun v => K v σ⟩
      | some true, some n => ⟨fun _ A σ K => (evW x).f A fun x => rFieldN fd.offset n x fun v => K v σ⟩
      | _, _ => opW P o
    | none => opW P o
  | .indexAddr t x ix => match isSlice P t with
    | some el => match sizeT P el with
      | some n => ⟨fun _ A σ K => (evW x).f A fun x => (evW ix).f A fun ix => rIdx n x ix fun v => K v σ⟩
      | none => opW P o
    | none => opW P o
  | .index t x ix => match P.underlying t with
    | some .string => ⟨fun _ A σ K => (evW x).f A fun x => (evW ix).f A fun ix => rStrAt x ix fun v => K v σ⟩
    | _ => opW P o
  | .extract t i => ⟨fun _ A σ K => (evW t).f A fun v => rExt i v fun v => K v σ⟩
  | .typeAssert x _ as ok => ⟨fun _ A σ K => (evW x).f A fun v => rAssert P as ok v fun v => K v σ⟩
  | .call c => callX P c
  | _ => opW P o

theorem convK_i {P : Program} {s d : TypeId} {j k : IntKind} (hs : P.underlying s = some (.int j)) (hd : P.underlying d = some (.int k)) (x : Value) (σ : St) (K : VK) : convK P s d x σ K = rInt k x fun v => K v σ := by
  cases x <;> simp only [convK, rInt, hs, hd]
  rename_i b n c
  cases b with
  | none => rfl
  | some a => obtain ⟨b, o, sp⟩ := a; match sp with
    | none => rfl
    | some 0 => rfl
    | some (_ + 1) => rfl
theorem indexK_t {P : Program} {t : TypeId} (h : P.underlying t = some .string) (x ix : Value) (K : Value → Bool) : indexK P t x ix K = rStrAt x ix K := by
  unfold indexK rStrAt; simp only [h]
  cases ix <;> first | rfl | skip
  rename_i kk i
  cases i <;> first | rfl | skip
  cases x <;> rfl
theorem opX_eq (E : Env) (o : Oper) (A : AAct) (σ : St) (K : VK) : (opX E.P o).f E A σ K = opK E o A σ K := by
  unfold opX
  split
  · rename_i c a b h; unfold opK; rw [h]; simp only [evW_eq, rPick] <;> rfl
  · rename_i t h
    split
    · rename_i z hz
      split
      · rename_i hf; unfold opK; rw [h]; exact (allocK_r hz hf σ K).symm
      · rfl
    · rfl
  · rename_i t ps h
    split
    · rename_i zero fields hz hu
      split
      · rename_i pl hp
        split
        · rename_i hf ha
          unfold opK; rw [h]
          simp only [buildK, hz, hu, hp, hf]
          refine (build_r (pl[·]?) A ps.toList zero (fun cs => K (.agg ⟨cs⟩) σ) ?_).symm
          intro p hp'
          exact List.all_eq_true.1 ha p hp'
        · rfl
      · rfl
    · rename_i zero n elem hz hu
      split
      · rename_i size hs
        split
        · rename_i hf
          unfold opK; rw [h]
          simp only [buildK, hz, hu, hs, hf]
          exact (build_r (fun i => some (i * size, size)) A ps.toList zero (fun cs => K (.agg ⟨cs⟩) σ) (fun p _ => rfl)).symm
        · rfl
      · rfl
    · rfl
  · rename_i t len ps h
    split
    · rename_i elem hs
      split
      · rename_i size zero hz hzl
        split
        · rename_i h1 h2
          split
          · rename_i hf
            unfold opK; rw [h]
            simp only [buildSliceK, hs, hz, hzl, h1, h2, hf]
            congr 1; funext cs
            exact (build_r (fun i => some (i * (size + 1), size + 1)) A ps.toList cs _ (fun p _ => rfl)).symm
          · rfl
        · rfl
      · rfl
    · rfl
  · rename_i t a h
    split
    · rename_i h1; unfold opK; rw [h]; simp only [evW_eq, loadK_one h1]
    · rename_i n h1 h2; unfold opK; rw [h]; simp only [evW_eq, loadK_agg h1 h2]
    · rfl
  · rename_i t a x h
    split
    · rename_i n h1; unfold opK; rw [h]; simp only [evW_eq, storeK_r h1]
    · rfl
  · rename_i x h; unfold opK; rw [h]; simp only [evW_eq, rNil] <;> rfl
  · rename_i op t x y yt h; unfold opK; rw [h]; simp only [evW_eq, rBin_eq]
  · rename_i s d x h
    split
    · rename_i j k h1 h2; unfold opK; rw [h]; simp only [evW_eq, convK_i h1 h2]
    · exact opW_eq E o A σ K
  · rename_i s x f h
    split
    · rename_i fd h1
      split
      · rename_i n h2; unfold opK; rw [h]; simp only [evW_eq, fieldAddrK_r h1 h2]
      · exact opW_eq E o A σ K
    · exact opW_eq E o A σ K
  · rename_i t x f h
    split
    · rename_i fd h1
      split
      · rename_i h2; unfold opK; rw [h]; simp only [evW_eq, fieldK_one h1 h2]
      · rename_i n h2 h3; unfold opK; rw [h]; simp only [evW_eq, fieldK_agg h1 h2 h3]
      · exact opW_eq E o A σ K
    · exact opW_eq E o A σ K
  · rename_i t x ix h
    split
    · rename_i el h1
      split
      · rename_i n h2; unfold opK; rw [h]; simp only [evW_eq, indexAddrK_s h1 h2]
      · exact opW_eq E o A σ K
    · exact opW_eq E o A σ K
  · rename_i t x ix h
    split
    · rename_i h1; unfold opK; rw [h]; simp only [evW_eq, indexK_t h1]
    · exact opW_eq E o A σ K
  · rename_i t i h; unfold opK; rw [h]; simp only [evW_eq, rExt] <;> rfl
  · rename_i x xt as ok h; unfold opK; rw [h]; simp only [evW_eq, rAssert] <;> rfl
  · rename_i c h; unfold opK; rw [h]; exact callX_eq E c A σ K
  · exact opW_eq E o A σ K

noncomputable def doneX (P : Program) (o : Oper) : StW :=
  match o.dst with
  | some d => ⟨fun E A σ k => (opX P o).f E A σ fun v σ => setTK v A.tmps d fun ts => k ⟨ts, A.marks, A.g⟩ σ⟩
  | none => ⟨fun E A σ k => (opX P o).f E A σ fun _ σ => k A σ⟩
/-- an operation of a region, where it is wanted -/
noncomputable def doX (P : Program) (ops : Array Oper) (o : Oper) : StW :=
  match o.guard with
  | none => doneX P o
  | some (j, w) => match ops[j]? with
    | some o' => match o'.dst with
      | some g => match o.dst with
        | some d => ⟨fun E A σ k => tmK A.tmps g fun b => rGuard w b (fun k => (opX P o).f E A σ k) σ fun v σ => setTK v A.tmps d fun ts => k ⟨ts, A.marks, A.g⟩ σ⟩
        | none => ⟨fun E A σ k => tmK A.tmps g fun b => rGuard w b (fun k => (opX P o).f E A σ k) σ fun _ σ => k A σ⟩
      | none => ⟨fun E A σ k => doK E ops o A σ k⟩
    | none => ⟨fun E A σ k => doK E ops o A σ k⟩
theorem doneX_eq (E : Env) (o : Oper) (A : AAct) (σ : St) (k : KS) : (doneX E.P o).f E A σ k = opK E o A σ fun v σ => putAK A o.dst v fun A => k A σ := by
  unfold doneX putAK
  cases o.dst <;> simp only [opX_eq]
theorem doX_eq (E : Env) (ops : Array Oper) (o : Oper) (A : AAct) (σ : St) (k : KS) : (doX E.P ops o).f E A σ k = doK E ops o A σ k := by
  unfold doX
  cases hg : o.guard with
  | none =>
    simp only [doneX_eq]
    unfold doK wantK
    rw [hg]
    rfl
  | some jw =>
    obtain ⟨j, w⟩ := jw
    simp only
    cases ho : ops[j]? with
    | none => rfl
    | some o' =>
      simp only
      cases hd' : o'.dst with
      | none => rfl
      | some g =>
        simp only
        cases hd : o.dst with
        | none =>
          unfold doK wantK putAK
          simp only [hg, ho, hd', hd, opX_eq, rGuard, rWant] <;> rfl
        | some d =>
          unfold doK wantK putAK
          simp only [hg, ho, hd', hd, opX_eq, rGuard, rWant] <;> rfl
noncomputable def opsX (P : Program) (ops : Array Oper) (l : List Oper) : StW :=
  lrec (β := StW) ⟨fun _ A σ k => k A σ⟩ (fun o _ ih => ⟨fun E A σ k => (doX P ops o).f E A σ fun A σ => ih.f E A σ k⟩) l
theorem opsX_eq (E : Env) (ops : Array Oper) : ∀ (l : List Oper) (A : AAct) (σ : St) (k : KS), (opsX E.P ops l).f E A σ k = opsK E ops l A σ k := by
  intro l
  induction l with
  | nil => intro A σ k; rfl
  | cons o l ih =>
    intro A σ k
    show (doX E.P ops o).f E A σ (fun A σ => (opsX E.P ops l).f E A σ k) = doK E ops o A σ fun A σ => opsK E ops l A σ k
    rw [doX_eq]
    congr 1
    funext A σ
    exact ih A σ k
noncomputable def chkO (o : Oper) (d : Tmp) (ops : Array Oper) (ih : ChW) : ChW := ⟨fun E A σ k => tmK A.tmps d fun u => wantK ops o A fun b => bcase b (opK E o A σ fun v _ => match sameV v u with | true => ih.f E A σ k | false => false) (match u with | .tuple ⟨[]⟩ => ih.f E A σ k | _ => false)⟩
noncomputable def chkX (P : Program) (ops : Array Oper) (l : List Nat) : ChW :=
  lrec (β := ChW) ⟨fun _ _ _ k => k⟩ (fun i _ ih => match ops[i]? with
    | some o => match o.dst with
      | some d => match o.guard with
        | none => ⟨fun E A σ k => tmK A.tmps d fun u => (opX P o).f E A σ fun v _ => rSame v u (ih.f E A σ k)⟩
        | some (j, w) => match ops[j]? with
          | some o' => match o'.dst with
            | some g => ⟨fun E A σ k => tmK A.tmps d fun u => tmK A.tmps g fun b => rGuardC w b u (fun k => (opX P o).f E A σ fun v _ => rSame v u k) (ih.f E A σ k)⟩
            | none => chkO o d ops ih
          | none => chkO o d ops ih
      | none => ⟨fun _ _ _ _ => false⟩
    | none => ⟨fun _ _ _ _ => false⟩) l
theorem chkX_cons (P : Program) (ops : Array Oper) (i : Nat) (l : List Nat) : chkX P ops (i :: l) = match ops[i]? with
    | some o => match o.dst with
      | some d => match o.guard with
        | none => ⟨fun E A σ k => tmK A.tmps d fun u => (opX P o).f E A σ fun v _ => rSame v u ((chkX P ops l).f E A σ k)⟩
        | some (j, w) => match ops[j]? with
          | some o' => match o'.dst with
            | some g => ⟨fun E A σ k => tmK A.tmps d fun u => tmK A.tmps g fun b => rGuardC w b u (fun k => (opX P o).f E A σ fun v _ => rSame v u k) ((chkX P ops l).f E A σ k)⟩
            | none => chkO o d ops (chkX P ops l)
          | none => chkO o d ops (chkX P ops l)
      | none => ⟨fun _ _ _ _ => false⟩
    | none => ⟨fun _ _ _ _ => false⟩ := rfl
theorem chkX_eq (E : Env) (ops : Array Oper) (A : AAct) (σ : St) (k : Bool) : ∀ (l : List Nat), (chkX E.P ops l).f E A σ k = chkK E ops A σ l k := by
  intro l
  induction l with
  | nil => rfl
  | cons i l ih =>
    rw [chkX_cons, chkK_cons]
    cases hi : ops[i]? with
    | none => rfl
    | some o =>
      simp only
      cases hd : o.dst with
      | none => rfl
      | some d =>
        simp only
        cases hg : o.guard with
        | none =>
          simp only [opX_eq, ih, wantK, hg, rSame]
          rfl
        | some jw =>
          obtain ⟨j, w⟩ := jw
          simp only
          cases hj : ops[j]? with
          | none => simp only [chkO, ih] <;> rfl
          | some o' =>
            simp only
            cases hd' : o'.dst with
            | none => simp only [chkO, ih] <;> rfl
            | some g => simp only [opX_eq, ih, wantK, hg, hj, hd', rGuardC, rWant, rSame, rUnd] <;> rfl
noncomputable def lopX (P : Program) (ops : Array Oper) (i : Nat) (o : Oper) : OpW := match convSrc P ops i with
  | none => opX P o
  | some _ => ⟨fun E A σ K => lopK E ops i o A σ K⟩
theorem lopX_eq (E : Env) (ops : Array Oper) (i : Nat) (o : Oper) (A : AAct) (σ : St) (K : VK) : (lopX E.P ops i o).f E A σ K = lopK E ops i o A σ K := by
  unfold lopX
  cases h : convSrc E.P ops i with
  | none => simp only [opX_eq]; unfold lopK; rw [h]
  | some j => rfl
noncomputable def lateX (P : Program) (ops : Array Oper) (l : List Nat) : StW :=
  lrec (β := StW) ⟨fun _ A σ k => k A σ⟩ (fun i _ ih => match ops[i]? with
    | some o => ⟨fun E A σ k => (lopX P ops i o).f E A σ fun v σ => putW o.dst v A fun A => ih.f E A σ k⟩
    | none => ⟨fun _ _ _ _ => false⟩) l
theorem lateX_eq (E : Env) (ops : Array Oper) : ∀ (l : List Nat) (A : AAct) (σ : St) (k : KS), (lateX E.P ops l).f E A σ k = lateK E ops l A σ k := by
  intro l
  induction l with
  | nil => intro A σ k; rfl
  | cons i l ih =>
    intro A σ k
    unfold lateX lateK at ih ⊢
    rw [lrec_cons, lrec_cons]
    cases ops[i]? with
    | none => rfl
    | some o =>
      simp only [lopX_eq, putW_eq]
      congr 1
      funext v σ
      congr 1
      funext A
      exact ih A σ k
noncomputable def preX (P : Program) (ops : Array Oper) (l : List (Nat × List Nat)) : ChW :=
  lrec (β := ChW) ⟨fun _ _ _ k => k⟩ (fun p _ ih => match ops[p.1]? with
    | some o => ⟨fun E A σ k => absK A o (bcase ((lateX P ops p.2).f E A σ fun A σ => (lopX P ops p.1 o).f E A σ fun _ _ => true) (ih.f E A σ k) false)⟩
    | none => ⟨fun _ _ _ _ => false⟩) l
theorem preX_eq (E : Env) (ops : Array Oper) (A : AAct) (σ : St) (k : Bool) : ∀ (l : List (Nat × List Nat)), (preX E.P ops l).f E A σ k = preK E ops A σ l k := by
  intro l
  induction l with
  | nil => rfl
  | cons p l ih =>
    unfold preX preK at ih ⊢
    rw [lrec_cons, lrec_cons]
    cases ops[p.1]? with
    | none => rfl
    | some o => simp only [lateX_eq, lopX_eq, ih]
noncomputable def pstepsX (P : Program) (ops : Array Oper) (l : List PStep) : StW :=
  lrec (β := StW) ⟨fun _ _ _ _ => false⟩ (fun s _ ih => match s with
    | .take i => match ops[i]? with
      | some o => ⟨fun E A σ k => (doX P ops o).f E A σ fun A σ => ih.f E A σ k⟩
      | none => ⟨fun _ _ _ _ => false⟩
    | .req chk pend D r chk' => match ops[r]? with
      | some o => ⟨fun E A σ k => (chkX P ops chk).f E A σ ((preX P ops pend).f E A σ ((lateX P ops D).f E A σ fun A σ => (doX P ops o).f E A σ fun A σ => (chkX P ops chk').f E A σ (ih.f E A σ k)))⟩
      | none => ⟨fun _ _ _ _ => false⟩
    | .fin chk pend D => ⟨fun E A σ k => (chkX P ops chk).f E A σ ((preX P ops pend).f E A σ ((lateX P ops D).f E A σ k))⟩) l
theorem pstepsX_eq (E : Env) (ops : Array Oper) : ∀ (l : List PStep) (A : AAct) (σ : St) (k : KS), (pstepsX E.P ops l).f E A σ k = pstepsK E ops l A σ k := by
  intro l
  induction l with
  | nil => intro A σ k; rfl
  | cons s l ih =>
    intro A σ k
    unfold pstepsX pstepsK at ih ⊢
    rw [lrec_cons, lrec_cons]
    cases s with
    | take i =>
      simp only
      cases ops[i]? with
      | none => rfl
      | some o => simp only [doX_eq, ih]
    | req chk pend D r chk' =>
      simp only
      cases ops[r]? with
      | none => rfl
      | some o => simp only [doX_eq, chkX_eq, preX_eq, lateX_eq, ih]
    | fin chk pend D => simp only [chkX_eq, preX_eq, lateX_eq]
noncomputable def regX (P : Program) (ops : Array Oper) (draw : Bool) : StW :=
  match draw with
  | true => match planQ P ops with
    | some l => match lates l with
      | [] => pstepsX P ops l
      | ls => ⟨fun E A σ k => delsK ops ls A fun A => (pstepsX P ops l).f E A σ k⟩
    | none => ⟨fun _ _ _ _ => false⟩
  | false => opsX P ops ops.toList
theorem regX_eq (E : Env) (ops : Array Oper) (draw : Bool) (A : AAct) (σ : St) (k : KS) : (regX E.P ops draw).f E A σ k = bcase draw (drP E ops A σ k) (opsK E ops ops.toList A σ k) := by
  cases draw with
  | true =>
    unfold regX drP bcase
    simp only
    cases planQ E.P ops with
    | none => rfl
    | some l =>
      simp only
      cases h : lates l with
      | nil => exact pstepsX_eq E ops l A σ k
      | cons d ls => simp only [pstepsX_eq]
  | false => exact opsX_eq E ops _ A σ k
end Go.Am

namespace Go.Am
open Go.RowKit Go.MapKept

/-- of each loop (named by the first region in it): the temporaries that live at its head, behind it, and where the function ends in it; of code behind which branches meet (named likewise): those that live there -/
structure LiveT where
  loop : Nat → List Nat × List Nat × List Nat
  join : Nat → Option (List Nat)
def firstReg : Code → Option Nat
  | .region i _ _ => some i
  | .seq a b => match firstReg a with | some i => some i | none => firstReg b
  | .cond _ a b => match firstReg a with | some i => some i | none => firstReg b
  | .block _ a => firstReg a
  | .loop a => firstReg a
  | .scope a => firstReg a
  | .rangeFunc _ _ a b => match firstReg a with | some i => some i | none => firstReg b
  | _ => none
def keepOf (tb : LiveT) (a : Code) : List Nat := match firstReg a with | some i => (tb.loop i).1 | none => []
def outOf (tb : LiveT) (a : Code) (e : AExit) : List Nat := match firstReg a with
  | some i => match e with | .ret => (tb.loop i).2.2 | _ => (tb.loop i).2.1
  | none => []
def joinOf (tb : LiveT) (b : Code) : Option (List Nat) := match firstReg b with | some i => tb.join i | none => none
/-- the values of some temporaries; these alone, laid anew -/
noncomputable def valsK (l : List Nat) (A : AAct) (k : List Value → Bool) : Bool :=
  lrec (β := (List Value → Bool) → Bool) (fun k => k []) (fun i _ ih k => tmK A.tmps i fun v => ih fun vs => k (v :: vs)) l k
noncomputable def canonK (l : List Nat) (vs : List Value) (nt g : Nat) (marks : List Nat) (k : AAct → Bool) : Bool :=
  lrec (β := List Value → Tm → Bool) (fun _ T => k ⟨T, marks, g⟩) (fun i _ ih vs T => match vs with | v :: vs => setTK v T i fun T => ih vs T | [] => false) l vs ⟨.leaf, nt⟩
abbrev LpT := Env → Option Nat → List Value → Nat → List Nat → St → (AExit → List Value → Nat → List Nat → St → Bool) → Bool
section
variable (P : Program) (tb : LiveT)
/-- behind a round of a loop -/
noncomputable def behindX (a : Code) (ih : List Value → Nat → List Nat → St → Bool) (K : AExit → List Value → Nat → List Nat → St → Bool) : CK' := fun e A σ => match e with
    | .normal => valsK (keepOf tb a) A fun vs => ih vs A.tmps.n A.marks σ
    | e => valsK (outOf tb a e) A fun vs => K e vs A.tmps.n A.marks σ
/-- so many rounds at most of a loop, from the values of its live temporaries -/
noncomputable def roundsN (a : Code) (body : CdW) (E : Env) (r : Option Nat) (K : AExit → List Value → Nat → List Nat → St → Bool) : Nat → List Value → Nat → List Nat → St → Bool :=
  nrec (β := List Value → Nat → List Nat → St → Bool) (fun _ _ _ _ => false) (fun _ ih vs n marks σ => canonK (keepOf tb a) vs n P.globals.size marks fun A => body.f E r A σ (behindX tb a ih K))
noncomputable def roundsX (a : Code) (body : CdW) : LpT := fun E r vs n marks σ K => roundsN P tb a body E r K E.most vs n marks σ
noncomputable def outX (a : Code) (K : CK') : AExit → List Value → Nat → List Nat → St → Bool := fun e vs n marks σ => canonK (outOf tb a e) vs n P.globals.size marks fun A => K e A σ
noncomputable def loopX (a : Code) (lp : LpT) : CdW := ⟨fun E r A σ K => valsK (keepOf tb a) A fun vs => lp E r vs A.tmps.n A.marks σ (outX P tb a K)⟩
/-- from where branches meet; 'most' is not made out, so that what goes on is written once -/
noncomputable def joinX (l : List Nat) (b : CdW) (E : Env) (r : Option Nat) (K : CK') (vs : List Value) (n : Nat) (marks : List Nat) (σ : St) : Bool := ncase E.most false fun _ => canonK l vs n P.globals.size marks fun A => b.f E r A σ K
/-- what goes on behind code: where branches meet, from the values of the live temporaries -/
noncomputable def thenX (j : Option (List Nat)) (b : CdW) (E : Env) (r : Option Nat) (K : CK') : CK' := fun e A σ => match e with
  | .normal => match j with
    | none => b.f E r A σ K
    | some l => valsK l A fun vs => joinX P l b E r K vs A.tmps.n A.marks σ
  | e => K e A σ
noncomputable def blockX (id : Nat) (K : CK') : CK' := fun e A σ => match e with
  | .exit i => match Nat.beq i id with | true => K .normal A σ | false => K (.exit i) A σ
  | e => K e A σ
noncomputable def codeX (lp : Code → LpT) : Code → CdW
  | .skip => ⟨fun _ _ A σ K => K .normal A σ⟩
  | .region _ ops draw => ⟨fun E _ A σ K => (regX P ops draw).f E A σ fun A σ => K .normal A σ⟩
  | .seq a b => ⟨fun E r A σ K => (codeX lp a).f E r A σ (thenX P (joinOf tb b) (codeX lp b) E r K)⟩
  | .cond c a b => ⟨fun E r A σ K => (evW c).f A fun v => match v with | .bool v => bcase v ((codeX lp a).f E r A σ K) ((codeX lp b).f E r A σ K) | _ => false⟩
  | .block id a => ⟨fun E r A σ K => (codeX lp a).f E r A σ (blockX id K)⟩
  | .loop a => loopX P tb a (lp a)
  | .scope a => codeX lp a
  | .rangeFunc f ps as bo => ⟨fun E r A σ K => rangeK E r f ps as bo A σ K⟩
  | .exit id => ⟨fun _ _ A σ K => K (.exit id) A σ⟩
  | .label _ => ⟨fun _ _ A σ K => K .normal A σ⟩
  | .ret => ⟨fun _ _ A σ K => K .ret A σ⟩
  | _ => ⟨fun _ _ _ _ _ => false⟩
/-- the loops as they are: so deep in one another at most -/
noncomputable def lpX : Nat → Code → LpT
  | 0 => fun _ _ _ _ _ _ _ _ => false
  | n + 1 => fun a => roundsX P tb a (codeX P tb (lpX n) a)
end
end Go.Am
namespace Go.Am
open Go.RowKit Go.MapKept
section
variable {P : Program} {w0 : World} {ρ : Rn} {σ : St} {w : World}
theorem valsK_true {A : AAct} : ∀ {l : List Nat} {k : List Value → Bool}, valsK l A k = true → ∃ vs, k vs = true ∧ vs.length = l.length ∧ ∀ (j i : Nat) (v : Value), l[j]? = some i → vs[j]? = some v → A.tmps.t.get i = some v := by
  intro l
  induction l with
  | nil => intro k hk; exact ⟨[], hk, rfl, fun j i v h => by simp at h⟩
  | cons x l ih =>
    intro k hk
    obtain ⟨v, hv, hk⟩ := tmK_true (show tmK A.tmps x (fun v => valsK l A fun vs => k (v :: vs)) = true from hk)
    obtain ⟨vs, h1, h2, h3⟩ := ih hk
    refine ⟨v :: vs, h1, by simp [h2], fun j i u hi hu => ?_⟩
    cases j with
    | zero => simp at hi hu; subst hi hu; exact hv
    | succ j => simp at hi hu; exact h3 j i u hi hu
/-- the temporaries' values stand for the model's -/
def ValsR (ρ : Rn) (l : List Nat) (vs : List Value) (a : Act) : Prop := vs.length = l.length ∧ ∀ (j i : Nat) (v : Value), l[j]? = some i → vs[j]? = some v → ∃ v', a.tmps.toList[i]? = some v' ∧ VR ρ v v'
theorem valsK_sound {A : AAct} {a : Act} (hA : ARel P ρ A a) {l : List Nat} {k : List Value → Bool} (hk : valsK l A k = true) : ∃ vs, k vs = true ∧ ValsR ρ l vs a := by
  obtain ⟨vs, h1, h2, h3⟩ := valsK_true hk
  exact ⟨vs, h1, h2, fun j i v hi hv => hA.tmps.get (h3 j i v hi hv)⟩
theorem canonK_sound {a : Act} {marks : List Nat} {k : AAct → Bool} {nt : Nat} : ∀ {l : List Nat} {vs : List Value} {T : Tm},
    (lrec (β := List Value → Tm → Bool) (fun _ T => k ⟨T, marks, P.globals.size⟩) (fun i _ ih vs T => match vs with | v :: vs => setTK v T i fun T => ih vs T | [] => false) l vs T) = true →
    ValsR ρ l vs a → T.n = nt → (∀ i v, T.t.get i = some v → ∃ v', a.tmps.toList[i]? = some v' ∧ VR ρ v v') → ∃ T', k ⟨T', marks, P.globals.size⟩ = true ∧ T'.n = nt ∧ ∀ i v, T'.t.get i = some v → ∃ v', a.tmps.toList[i]? = some v' ∧ VR ρ v v' := by
  intro l
  induction l with
  | nil => intro vs T hk _ hn hT; exact ⟨T, hk, hn, hT⟩
  | cons x l ih =>
    intro vs T hk hv hn hT
    rw [lrec_cons] at hk
    cases vs with
    | nil => have := hv.1; simp at this
    | cons v vs =>
      obtain ⟨hx, hk⟩ := setTK_true hk
      refine ih hk ⟨by have := hv.1; simpa using this, fun j i u hi hu => hv.2 (j + 1) i u (by simpa using hi) (by simpa using hu)⟩ hn fun i u hu => ?_
      have hu : (T.t.put x v).get i = some u := hu
      rw [get_put] at hu
      split at hu
      · rename_i e
        injection hu with hu
        subst hu e
        exact hv.2 0 i v rfl rfl
      · exact hT i u hu
theorem canon_sound {a : Act} {marks : List Nat} {k : AAct → Bool} {nt : Nat} {l : List Nat} {vs : List Value} (hk : canonK l vs nt P.globals.size marks k = true) (hv : ValsR ρ l vs a) (hn : nt = a.tmps.size) (hm : DRel ρ marks a.defers) (hr : Rel P w0 ρ σ w) :
    ∃ A, k A = true ∧ SR P w0 ρ A a σ w ∧ A.marks = marks := by
  obtain ⟨T', h1, h2, h3⟩ := canonK_sound hk hv rfl (fun i v h => by cases h)
  exact ⟨_, h1, ⟨⟨⟨by rw [h2, hn]; simp, h3⟩, rfl⟩, hr, hm⟩, rfl⟩
end
end Go.Am
namespace Go.Am
open Go.RowKit Go.MapKept
section
variable {E : Env} {w0 : World}
structure At (P : Program) (w0 : World) (ρ : Rn) (l : List Nat) (vs : List Value) (n : Nat) (marks : List Nat) (a : Act) (σ : St) (w : World) : Prop where
  vals : ValsR ρ l vs a
  size : n = a.tmps.size
  marks : DRel ρ marks a.defers
  rel : Rel P w0 ρ σ w
def LArr (P : Program) (w0 : World) (tb : LiveT) (b : Code) (ρ : Rn) (w : World) (K : AExit → List Value → Nat → List Nat → St → Bool) (e : Exit) (a' : Act) (w' : World) : Prop :=
  ∃ ρ' ae vs n marks σ', e = exR ae ∧ K ae vs n marks σ' = true ∧ At P w0 ρ' (outOf tb b ae) vs n marks a' σ' w' ∧ Stp ρ w ρ' w'
def LpOk (E : Env) (w0 : World) (tb : LiveT) (lp : Code → LpT) : Prop := ∀ (b : Code) {ρ : Rn} {vs : List Value} {n : Nat} {marks : List Nat} {a : Act} {σ : St} {w : World} {K : AExit → List Value → Nat → List Nat → St → Bool} {r ro : Option Nat} {Q : Exit → Act → World → Prop},
  lp b E r vs n marks σ K = true → At E.P w0 ρ (keepOf tb b) vs n marks a σ w → RoR ρ r ro → (∀ e a' w', LArr E.P w0 tb b ρ w K e a' w' → Q e a' w') → (Code.loop b).wpIn (fnc ro) 0 E.P Q a w
theorem At.canon {P : Program} {ρ : Rn} {l : List Nat} {vs : List Value} {n : Nat} {marks : List Nat} {a : Act} {σ : St} {w : World} {k : AAct → Bool} (h : At P w0 ρ l vs n marks a σ w) (hk : canonK l vs n P.globals.size marks k = true) : ∃ A, k A = true ∧ SR P w0 ρ A a σ w := by
  obtain ⟨A, h1, h2, _⟩ := canon_sound hk h.vals h.size h.marks h.rel
  exact ⟨A, h1, h2⟩
theorem SR.at {P : Program} {ρ : Rn} {A : AAct} {a : Act} {σ : St} {w : World} {l : List Nat} {k : List Value → Bool} (h : SR P w0 ρ A a σ w) (hk : valsK l A k = true) : ∃ vs, k vs = true ∧ At P w0 ρ l vs A.tmps.n A.marks a σ w := by
  obtain ⟨vs, h1, h2⟩ := valsK_sound h.act hk
  exact ⟨vs, h1, h2, by rw [h.act.tmps.1]; simp, h.marks, h.rel⟩
theorem codeX_wp (hc : CallOk E.P w0 E.call) (hr : RoundOk E.P w0 E.round) (hm : E.P.follows .mixedOrders = true) {tb : LiveT} {lp : Code → LpT} (hlp : LpOk E w0 tb lp) : ∀ (c : Code) {ρ : Rn} {A : AAct} {a : Act} {σ : St} {w : World} {K : CK'} {r ro : Option Nat} {Q : Exit → Act → World → Prop},
    (codeX E.P tb lp c).f E r A σ K = true → SR E.P w0 ρ A a σ w → RoR ρ r ro → (∀ e a' w', Arr E.P w0 ρ w K e a' w' → Q e a' w') → c.wpIn (fnc ro) 0 E.P Q a w := by
  intro c
  induction c with
  | skip => intro ρ A a σ w K r ro Q hk hs hro hQ; exact wpIn_skip (hQ _ _ _ ⟨ρ, .normal, A, σ, rfl, hk, hs, .refl ρ w⟩)
  | label l => intro ρ A a σ w K r ro Q hk hs hro hQ; exact wpIn_label (hQ _ _ _ ⟨ρ, .normal, A, σ, rfl, hk, hs, .refl ρ w⟩)
  | ret => intro ρ A a σ w K r ro Q hk hs hro hQ; exact wpIn_ret (hQ _ _ _ ⟨ρ, .ret, A, σ, rfl, hk, hs, .refl ρ w⟩)
  | exit id => intro ρ A a σ w K r ro Q hk hs hro hQ; exact wpIn_exit (hQ _ _ _ ⟨ρ, .exit id, A, σ, rfl, hk, hs, .refl ρ w⟩)
  | goto l => intro ρ A a σ w K r ro Q hk hs hro hQ; cases hk
  | refuse l => intro ρ A a σ w K r ro Q hk hs hro hQ; cases hk
  | region id ops draw =>
    intro ρ A a σ w K r ro Q hk hs hro hQ
    have hk : (regX E.P ops draw).f E A σ (fun A σ => K .normal A σ) = true := hk
    rw [regX_eq] at hk
    exact codeK_wp hc hr (drP_ok hc hr hm) (.region id ops draw) hk hs hro hQ
  | seq x y ihx ihy =>
    intro ρ A a σ w K r ro Q hk hs hro hQ
    have hk : (codeX E.P tb lp x).f E r A σ (thenX E.P (joinOf tb y) (codeX E.P tb lp y) E r K) = true := hk
    refine wpIn_seq (ihx hk hs hro ?_)
    rintro e a' w' ⟨ρ', ae, A', σ', rfl, h1, h2, h3⟩
    cases ae with
    | normal =>
      unfold thenX at h1
      cases hj : joinOf tb y with
      | none =>
        rw [hj] at h1
        exact ihy h1 h2 (hro.mono h3.ext) fun e a w h => hQ e a w (h.trans h3)
      | some l =>
        rw [hj] at h1
        have h1 : valsK l A' (fun vs => joinX E.P l (codeX E.P tb lp y) E r K vs A'.tmps.n A'.marks σ') = true := h1
        obtain ⟨vs, g1, g2⟩ := h2.at h1
        have g1 : canonK l vs A'.tmps.n E.P.globals.size A'.marks (fun A => (codeX E.P tb lp y).f E r A σ' K) = true := by
          unfold joinX at g1
          cases hm : E.most with
          | zero => rw [hm] at g1; cases g1
          | succ m => rw [hm] at g1; exact g1
        obtain ⟨A2, g3, g4⟩ := g2.canon g1
        exact ihy g3 g4 (hro.mono h3.ext) fun e a w h => hQ e a w (h.trans h3)
    | exit id => exact hQ _ _ _ ⟨ρ', .exit id, A', σ', rfl, h1, h2, h3⟩
    | ret => exact hQ _ _ _ ⟨ρ', .ret, A', σ', rfl, h1, h2, h3⟩
  | cond c x y ihx ihy =>
    intro ρ A a σ w K r ro Q hk hs hro hQ
    have hk : (evW c).f A (fun v => match v with | .bool b => bcase b ((codeX E.P tb lp x).f E r A σ K) ((codeX E.P tb lp y).f E r A σ K) | _ => false) = true := hk
    rw [evW_eq] at hk
    obtain ⟨v, hk, hv⟩ := evK_sound hs.rel hs.act hk
    split at hk
    · rename_i b
      have e := hv.of_flat rfl
      cases b with
      | true => exact wpIn_cond_true e (ihx hk hs hro hQ)
      | false => exact wpIn_cond_false e (ihy hk hs hro hQ)
    · cases hk
  | block id x ih =>
    intro ρ A a σ w K r ro Q hk hs hro hQ
    have hk : (codeX E.P tb lp x).f E r A σ (blockX id K) = true := hk
    refine wpIn_block (ih hk hs hro ?_)
    rintro e a' w' ⟨ρ', ae, A', σ', rfl, h1, h2, h3⟩
    cases ae with
    | normal => exact hQ _ _ _ ⟨ρ', .normal, A', σ', rfl, h1, h2, h3⟩
    | ret => exact hQ _ _ _ ⟨ρ', .ret, A', σ', rfl, h1, h2, h3⟩
    | exit i =>
      unfold blockX at h1
      simp only at h1
      show Exit.inBlock id Q (.exit i) a' w'
      split at h1
      · rename_i hi
        have hi := Nat.eq_of_beq_eq_true hi
        subst hi
        simp only [Exit.inBlock, if_true]
        exact hQ _ _ _ ⟨ρ', .normal, A', σ', rfl, h1, h2, h3⟩
      · rename_i hi
        have hi := Nat.ne_of_beq_eq_false hi
        simp only [Exit.inBlock, hi, if_false]
        exact hQ _ _ _ ⟨ρ', .exit i, A', σ', rfl, h1, h2, h3⟩
  | scope x ih =>
    intro ρ A a σ w K r ro Q hk hs hro hQ
    refine wpIn_scope (ih (show (codeX E.P tb lp x).f E r A σ K = true from hk) hs hro ?_)
    rintro e a' w' ⟨ρ', ae, A', σ', rfl, h1, h2, h3⟩
    cases ae with
    | normal => exact hQ _ _ _ ⟨ρ', .normal, A', σ', rfl, h1, h2, h3⟩
    | exit id => exact hQ _ _ _ ⟨ρ', .exit id, A', σ', rfl, h1, h2, h3⟩
    | ret => exact hQ _ _ _ ⟨ρ', .ret, A', σ', rfl, h1, h2, h3⟩
  | rangeFunc f ps as bo _ _ =>
    intro ρ A a σ w K r ro Q hk hs hro hQ
    exact rangeK_wp hc hk hs hro hQ
  | loop x ih =>
    intro ρ A a σ w K r ro Q hk hs hro hQ
    have hk : valsK (keepOf tb x) A (fun vs => lp x E r vs A.tmps.n A.marks σ (outX E.P tb x K)) = true := hk
    obtain ⟨vs, hk, hat⟩ := hs.at hk
    refine hlp x hk hat hro ?_
    rintro e a' w' ⟨ρ', ae, vs', n', marks', σ', rfl, h1, h2, h3⟩
    obtain ⟨A', h1, h4⟩ := h2.canon h1
    exact hQ _ _ _ ⟨ρ', ae, A', σ', rfl, h1, h4, h3⟩
theorem lpX_ok (hc : CallOk E.P w0 E.call) (hr : RoundOk E.P w0 E.round) (hm : E.P.follows .mixedOrders = true) (tb : LiveT) : ∀ m, LpOk E w0 tb (lpX E.P tb m) := by
  intro m
  induction m with
  | zero => intro b ρ vs n marks a σ w K r ro Q hk; cases hk
  | succ m ih =>
    intro b ρ vs n marks a σ w K r ro Q hk hat hro hQ
    let F : Nat → List Value → Nat → List Nat → St → Bool := roundsN E.P tb b (codeX E.P tb (lpX E.P tb m) b) E r K
    have hk : F E.most vs n marks σ = true := hk
    let I : Nat → Act → World → Prop := fun j a' w' => ∃ ρ' vs n marks σ', F j vs n marks σ' = true ∧ At E.P w0 ρ' (keepOf tb b) vs n marks a' σ' w' ∧ Stp ρ w ρ' w'
    refine wpIn_loop (I := fun a w => ∃ j, I j a w) (μ := fun a w => least fun j => I j a w) ⟨E.most, ρ, vs, n, marks, σ, hk, hat, .refl ρ w⟩ ?_
    rintro a1 w1 ⟨j0, hj0⟩
    obtain ⟨hj, _⟩ := least_spec (p := fun j => I j a1 w1) hj0
    generalize hgen : least (fun j => I j a1 w1) = j at hj
    obtain ⟨ρ1, vs1, n1, marks1, σ1, h1, h2, h3⟩ := hj
    cases j with
    | zero => cases h1
    | succ j =>
      have h1 : canonK (keepOf tb b) vs1 n1 E.P.globals.size marks1 (fun A => (codeX E.P tb (lpX E.P tb m) b).f E r A σ1 (behindX tb b (F j) K)) = true := h1
      obtain ⟨A1, h1, hs1⟩ := h2.canon h1
      refine codeX_wp hc hr hm ih b h1 hs1 (hro.mono h3.ext) ?_
      rintro e a' w' ⟨ρ', ae, A', σ', rfl, g1, g2, g3⟩
      cases ae with
      | normal =>
        obtain ⟨vs', g1, hat'⟩ := g2.at g1
        have hI : I j a' w' := ⟨ρ', vs', _, _, σ', g1, hat', h3.trans g3⟩
        refine ⟨⟨j, hI⟩, ?_⟩
        have := (least_spec (p := fun j => I j a' w') hI).2
        exact Nat.lt_succ_of_le this
      | exit id =>
        obtain ⟨vs', g1, hat'⟩ := g2.at g1
        exact hQ _ _ _ ⟨ρ', .exit id, vs', _, _, σ', rfl, g1, hat', h3.trans g3⟩
      | ret =>
        obtain ⟨vs', g1, hat'⟩ := g2.at g1
        exact hQ _ _ _ ⟨ρ', .ret, vs', _, _, σ', rfl, g1, hat', h3.trans g3⟩
end
end Go.Am

namespace Go.Am
open Go.RowKit Go.MapKept
section
variable (P : Program) (tb : FuncId → LiveT)
/-- where a function ends -/
noncomputable def finX (fn : Func) (K : VK) : CK' := fun e A σ => match e with
  | .exit _ => false
  | _ => marksK A.marks σ fun σ => resultsK P fn.results.toList A σ fun vs => match vs with | [v] => K v σ | vs => K (.tuple ⟨vs⟩) σ
/-- so deep in one another are loops at most -/
def deepX : Nat := 5
noncomputable def fnX (f : FuncId) (E : Env) (args : List Value) (σ : St) (K : VK) : Bool :=
  match P.funcs[f]? with
  | some fn => match fn.body with
    | some c => forceN fn.ntmps fun n => layTK n args fun ts => (codeX P (tb f) (lpX P (tb f) deepX) c).f E none ⟨ts, [], P.globals.size⟩ σ (finX P fn K)
    | none => false
  | none => false
/-- the evaluator for open statements -/
noncomputable def envX (ov : FuncId → Option (List Value → St → VK → Bool)) (most : Nat) (n : Nat) : Env :=
  nrec (β := Env) { P, ov, call := fun _ _ _ _ => false, round := fun _ _ _ _ => false, most }
    (fun _ E => { P, ov, call := fun f args σ K => match ov f with | some g => g args σ K | none => fnX P tb f E args σ K, round := fun l args σ K => roundL P E l args σ K, most }) n

/-! ### places -/
inductive Dir where
  | l
  | r
  | d
variable (T : LiveT) (E : Env)
/-- down to a place: the code there, how deep in it loops may still be, what goes on behind it; 'ms': of each loop on the way, how many rounds are left -/
noncomputable def descend : List Dir → Nat → Code → List Nat → CK' → (Nat → Code → CK' → Bool) → Bool
  | [], D, c, _, K, k => k D c K
  | .l :: p, D, .seq a b, ms, K, k => descend p D a ms (thenX P (joinOf T b) (codeX P T (lpX P T D) b) E none K) k
  | .r :: p, D, .seq _ b, ms, K, k => descend p D b ms K k
  | .l :: p, D, .cond _ a _, ms, K, k => descend p D a ms K k
  | .r :: p, D, .cond _ _ b, ms, K, k => descend p D b ms K k
  | .d :: p, D, .block id a, ms, K, k => descend p D a ms (blockX id K) k
  | .d :: p, D, .scope a, ms, K, k => descend p D a ms K k
  | .d :: p, D + 1, .loop a, m :: ms, K, k => descend p D a ms (behindX T a (roundsN P T a (codeX P T (lpX P T D) a) E none (outX P T a K) m) (outX P T a K)) k
  | _, _, _, _, _, _ => false
/-- from a place where branches meet -/
noncomputable def jmpJ (f : FuncId) (E : Env) (p : List Dir) (ms : List Nat) (vs : List Value) (σ : St) (K : VK) : Bool :=
  match P.funcs[f]? with
  | some fn => match fn.body with
    | some c => descend P (tb f) E p deepX c ms (finX P fn K) fun D c K => match joinOf (tb f) c with
      | some l => joinX P l (codeX P (tb f) (lpX P (tb f) D) c) E none K vs fn.ntmps [] σ
      | none => false
    | none => false
  | none => false
noncomputable def jmp0 (f : FuncId) (E : Env) (p : List Dir) (ms : List Nat) (vs : List Value) (σ : St) (K : VK) : Bool :=
  match P.funcs[f]? with
  | some fn => match fn.body with
    | some c => descend P (tb f) E p deepX c ms (finX P fn K) fun D c K => match joinOf (tb f) c with
      | some l => canonK l vs fn.ntmps P.globals.size [] fun A => (codeX P (tb f) (lpX P (tb f) D) c).f E none A σ K
      | none => false
    | none => false
  | none => false
/-- from a loop's head, so many rounds at most -/
noncomputable def jmpL (f : FuncId) (E : Env) (p : List Dir) (m : Nat) (ms : List Nat) (vs : List Value) (σ : St) (K : VK) : Bool :=
  match P.funcs[f]? with
  | some fn => match fn.body with
    | some c => descend P (tb f) E p deepX c ms (finX P fn K) fun D c K => match D, c with
      | D + 1, .loop a => roundsN P (tb f) a (codeX P (tb f) (lpX P (tb f) D) a) E none (outX P (tb f) a K) m vs fn.ntmps [] σ
      | _, _ => false
    | none => false
  | none => false
theorem descend_join (m : Nat) (k k' : Nat → Code → CK' → Bool) (h : ∀ D c K, k D c K = ncase m false fun _ => k' D c K) : ∀ (p : List Dir) (D : Nat) (c : Code) (ms : List Nat) (K : CK'), descend P T E p D c ms K k = ncase m false fun _ => descend P T E p D c ms K k' := by
  have hf : (false : Bool) = ncase m false fun _ => false := by cases m <;> rfl
  intro p
  induction p with
  | nil => intro D c ms K; exact h D c K
  | cons q p ih =>
    intro D c ms K
    cases q <;> cases c <;> first
      | exact hf
      | exact ih _ _ _ _
      | (cases D with
         | zero => exact hf
         | succ D => cases ms with
           | nil => exact hf
           | cons m ms => exact ih _ _ _ _)
end
section
variable {P : Program} {tb : FuncId → LiveT} {w0 : World}
theorem jmpJ_eq (f : FuncId) (E : Env) (p : List Dir) (ms : List Nat) (vs : List Value) (σ : St) (K : VK) (hm : E.most ≠ 0) : jmpJ P tb f E p ms vs σ K = jmp0 P tb f E p ms vs σ K := by
  obtain ⟨m, hm⟩ := Nat.exists_eq_succ_of_ne_zero hm
  unfold jmpJ jmp0
  cases P.funcs[f]? with
  | none => rfl
  | some fn =>
    simp only
    cases fn.body with
    | none => rfl
    | some c =>
      simp only
      rw [descend_join P (tb f) E E.most _ (fun D c K => match joinOf (tb f) c with
        | some l => canonK l vs fn.ntmps P.globals.size [] fun A => (codeX P (tb f) (lpX P (tb f) D) c).f E none A σ K
        | none => false) (fun D c K => by
          cases joinOf (tb f) c with
          | none => rw [hm]; rfl
          | some l => rfl), hm]
      rfl
theorem fnX_sound {E : Env} (hP : E.P = P) (hc : CallOk P w0 E.call) (hr : RoundOk P w0 E.round) (hm : P.follows .mixedOrders = true) (hnames : ∀ (f : FuncId) (fn : Func), P.funcs[f]? = some fn → fn.name ≠ "runtime.NumGoroutine") : CallOk P w0 (fun f args σ K => fnX P tb f E args σ K) := by
  subst hP
  intro f args σ K ρ w args' hk h ha
  dsimp only at hk
  unfold fnX at hk
  split at hk
  · rename_i fn hf
    split at hk
    · rename_i c hb
      refine ⟨fun w => ?_, ?_⟩
      · have hn := hnames f fn hf
        have hp : (program).run E.P w = .ok E.P w := rfl
        simp [callFunc, hp, hf, hn, hb]
      · rw [forceN_eq] at hk
        obtain ⟨ts, hk, hts⟩ := layTK_sound hk ha
        refine callsIn_of_wp_marks hf hb trivial (codeX_wp hc hr hm (lpX_ok hc hr hm (tb f) deepX) c (ro := none) (r := none) hk ⟨⟨hts, rfl⟩, h, ⟨rfl, by simp⟩⟩ (.inl ⟨rfl, rfl⟩) ?_)
        · rintro e a' w' ⟨ρ', ae, A', σ', rfl, g1, g2, g3⟩
          have fin : marksK A'.marks σ' (fun σ => resultsK E.P fn.results.toList A' σ fun vs => match vs with | [v] => K v σ | vs => K (.tuple ⟨vs⟩) σ) = true → LeavesInM (fnc none) 0 E.P fn a'.tmps (Back E.P w0 ρ w K) a'.defers .returning w' := by
            intro hk
            refine marksK_sound hk g2.rel g2.marks fun σ2 w2 hk hrel hstp => ?_
            obtain ⟨vs, vs', hk, hvs, hrun⟩ := resultsK_sound hrel g2.act hk
            have hmap : (fn.results.mapM (fun | .tmp t => pure (a'.tmps.getD t undef) | .cell x t => do loadVar t (← asAddr (a'.tmps.getD x undef)) : ResultVar → Sem Value)).run E.P w2 = .ok ⟨vs'⟩ w2 := by
              rw [← Array.toArray_toList (xs := fn.results), List.mapM_toArray]
              rw [Sem.run_map]
              exact (congrArg (fun r => Result.andThen r _) hrun).trans rfl
            refine ⟨(if h : (⟨vs'⟩ : Array Value).size = 1 then (⟨vs'⟩ : Array Value)[0] else .tuple ⟨vs'⟩), ?_, ?_⟩
            · unfold results
              rw [Sem.run_bind]
              exact (congrArg (fun r => Result.andThen r _) hmap).trans rfl
            · refine ⟨_, rfl, ?_⟩
              match vs, vs', hk, hvs with
              | [v], [v'], hk, hvs => exact ⟨ρ', v, σ2, hk, hvs.head, hrel, g3.trans hstp⟩
              | [], [], hk, hvs => exact ⟨ρ', _, σ2, hk, .mk_tuple (.nil _), hrel, g3.trans hstp⟩
              | a :: b :: l, a2 :: b2 :: l2, hk, hvs =>
                have : ¬ (⟨a2 :: b2 :: l2⟩ : Array Value).size = 1 := by simp
                rw [dif_neg this]
                exact ⟨ρ', _, σ2, hk, .mk_tuple hvs, hrel, g3.trans hstp⟩
              | [], _ :: _, _, hvs => have := hvs.1; simp at this
              | _ :: _, [], _, hvs => have := hvs.1; simp at this
              | [_], _ :: _ :: _, _, hvs => have := hvs.1; simp at this
              | _ :: _ :: _, [_], _, hvs => have := hvs.1; simp at this
          cases ae with
          | normal => exact fin g1
          | ret => exact fin g1
          | exit id => cases g1
    · cases hk
  · cases hk
theorem envX_P (P : Program) (tb : FuncId → LiveT) (ov : FuncId → Option (List Value → St → VK → Bool)) (most n : Nat) : (envX P tb ov most n).P = P := by cases n <;> rfl
theorem envX_sound {ov : FuncId → Option (List Value → St → VK → Bool)} {most : Nat} (hov : OvOk P w0 ov) (hnames : ∀ (f : FuncId) (fn : Func), P.funcs[f]? = some fn → fn.name ≠ "runtime.NumGoroutine") (hm : P.follows .mixedOrders = true) : ∀ n, CallOk P w0 (envX P tb ov most n).call ∧ RoundOk P w0 (envX P tb ov most n).round := by
  intro n
  induction n with
  | zero =>
    refine ⟨?_, ?_⟩
    · intro f args σ K ρ w args' hk; cases hk
    · intro l args σ K ρ w args' L hk; cases hk
  | succ n ih =>
    obtain ⟨ih1, ih2⟩ := ih
    have hP := envX_P P tb ov most n
    refine ⟨fun f args σ K ρ w args' hk h ha => ?_, ?_⟩
    · have hk : (match (generalizing := false) ov f with | some g => g args σ K | none => fnX P tb f (envX P tb ov most n) args σ K) = true := hk
      split at hk
      · rename_i g hg
        exact hov f g hg f args σ K ρ w args' (by simpa using hk) h ha
      · exact fnX_sound (tb := tb) hP ih1 ih2 hm hnames f args σ K ρ w args' hk h ha
    · have hd : DrOk (envX P tb ov most n) w0 (drP (envX P tb ov most n)) := drP_ok (by rw [hP]; exact ih1) (by rw [hP]; exact ih2) (by rw [hP]; exact hm)
      have := roundK_sound (E := envX P tb ov most n) (by rw [hP]; exact ih1) (by rw [hP]; exact ih2) hd
      rw [hP] at this
      intro l args σ K ρ w args' L hk h ha hL
      refine this l args σ K ρ w args' L ?_ h ha hL
      rw [← roundL_eq, hP]
      exact hk
theorem envX_call {ov : FuncId → Option (List Value → St → VK → Bool)} {most n : Nat} {f : FuncId} (h : ov f = none) (args : List Value) (σ : St) (K : VK) : (envX P tb ov most (n + 1)).call f args σ K = fnX P tb f (envX P tb ov most n) args σ K := by
  show (match (generalizing := false) ov f with | some g => g args σ K | none => fnX P tb f (envX P tb ov most n) args σ K) = _
  rw [h]
theorem envX_ov {ov : FuncId → Option (List Value → St → VK → Bool)} {most n : Nat} {f : FuncId} {g : List Value → St → VK → Bool} (h : ov f = some g) (args : List Value) (σ : St) (K : VK) : (envX P tb ov most (n + 1)).call f args σ K = g args σ K := by
  show (match (generalizing := false) ov f with | some g => g args σ K | none => fnX P tb f (envX P tb ov most n) args σ K) = _
  rw [h]
end
end Go.Am

namespace Go.Am
open Go.RowKit Go.MapKept
/-- what an environment has besides the program -/
structure EV where
  ov : FuncId → Option (List Value → St → VK → Bool)
  C : CallT
  R : Nat → List Value → St → VK → Bool
  most : Nat
noncomputable def EV.E (x : EV) (P : Program) : Env := { P, ov := x.ov, call := x.C, round := x.R, most := x.most }
noncomputable def xAt (P : Program) (tb : FuncId → LiveT) (ov : FuncId → Option (List Value → St → VK → Bool)) (most n : Nat) : EV := ⟨ov, (envX P tb ov most n).call, (envX P tb ov most n).round, most⟩
theorem xAt_E (P : Program) (tb : FuncId → LiveT) (ov : FuncId → Option (List Value → St → VK → Bool)) (most n : Nat) : (xAt P tb ov most n).E P = envX P tb ov most n := by cases n <;> rfl
theorem xAt_call {P : Program} {tb : FuncId → LiveT} {ov : FuncId → Option (List Value → St → VK → Bool)} {most n : Nat} {f : FuncId} (h : ov f = none) (args : List Value) (σ : St) (K : VK) : (xAt P tb ov most (n + 1)).C f args σ K = fnX P tb f ((xAt P tb ov most n).E P) args σ K := by
  rw [xAt_E]; exact envX_call h args σ K
theorem xAt_ov {P : Program} {tb : FuncId → LiveT} {ov : FuncId → Option (List Value → St → VK → Bool)} {most n : Nat} {f : FuncId} {g : List Value → St → VK → Bool} (h : ov f = some g) (args : List Value) (σ : St) (K : VK) : (xAt P tb ov most (n + 1)).C f args σ K = g args σ K := envX_ov h args σ K

end Go.Am
namespace Go.Am
noncomputable def lookL (l : List (Nat × List Nat × List Nat × List Nat)) (i : Nat) : List Nat × List Nat × List Nat := lrec (β := List Nat × List Nat × List Nat) ([], [], []) (fun p _ ih => bcase (Nat.beq p.1 i) p.2 ih) l
noncomputable def lookJ (l : List (Nat × List Nat)) (i : Nat) : Option (List Nat) := lrec (β := Option (List Nat)) none (fun p _ ih => bcase (Nat.beq p.1 i) (some p.2) ih) l
noncomputable def lookF (l : List (Nat × LiveT)) (f : FuncId) : LiveT := lrec (β := LiveT) ⟨fun _ => ([], [], []), fun _ => none⟩ (fun p _ ih => bcase (Nat.beq p.1 f) p.2 ih) l
end Go.Am

namespace Go.Am
open Go.RowKit Go.MapKept
section
variable {P : Program}
theorem rNil_p (a : Addr) (K : Value → Bool) : rNil P (.pointer (some a)) K = K (.pointer (some a)) := rfl
theorem rNil_m {t : TypeId} {s : String} {g : FuncId} (h : methT P t s = some g) (w : Value) (K : Value → Bool) : rNil P (.func (.method s) ⟨[.iface t w]⟩ ⟨[]⟩) K = K (.func (.method s) ⟨[.iface t w]⟩ ⟨[]⟩) := by
  show (match methT P t s with | some _ => _ | none => false) = _
  rw [h]
theorem rInv_i {t : TypeId} {m : String} {g : FuncId} (h : methT P t m = some g) (call : CallT) (v : Value) (args : List Value) (σ : St) (K : VK) : rInv P call (.iface t v) m args σ K = call g (v :: args) σ K := by
  show (match methT P t m with | some g => call g (v :: args) σ K | none => false) = _
  rw [h]
theorem rCallV_f (call : CallT) (round : Nat → List Value → St → VK → Bool) (g : FuncId) (a : List Value) (σ : St) (K : VK) : rCallV call round (.func (.func g) ⟨[]⟩ ⟨[]⟩) a σ K = call g a σ K := by
  show (appK [] a fun l => appK l [] fun l => call g l σ K) = _
  rw [appK_eq, appK_eq]; simp
theorem rIf_b (b : Bool) (x y : Bool) : rIf (.bool b) x y = if b then x else y := by cases b <;> rfl
theorem rIf_t (x y : Bool) : rIf (.bool true) x y = x := rfl
theorem rIf_f (x y : Bool) : rIf (.bool false) x y = y := rfl
theorem rPick_t (a b : Value) (K : Value → Bool) : rPick (.bool true) a b K = K a := rfl
theorem rPick_f (a b : Value) (K : Value → Bool) : rPick (.bool false) a b K = K b := rfl
theorem rGuard_tt (op : VK → Bool) (σ : St) (k : VK) : rGuard true (.bool true) op σ k = op k := rfl
theorem rGuard_tf (op : VK → Bool) (σ : St) (k : VK) : rGuard true (.bool false) op σ k = k undef σ := rfl
theorem rGuard_ff (op : VK → Bool) (σ : St) (k : VK) : rGuard false (.bool false) op σ k = op k := rfl
theorem rGuard_ft (op : VK → Bool) (σ : St) (k : VK) : rGuard false (.bool true) op σ k = k undef σ := rfl
theorem rFld_p (off b o : Nat) (K : Value → Bool) : rFld off (.pointer (some ⟨b, o, none⟩)) K = K (.pointer (some ⟨b, o + off, none⟩)) := by
  show forceN (o + off) (fun o => K (.pointer (some ⟨b, o, none⟩))) = _
  rw [forceN_eq]
theorem rExt_t (i : Nat) (vs : List Value) (K : Value → Bool) : rExt i (.tuple ⟨vs⟩) K = nthK vs i fun v => K v := rfl
theorem nthK_z {α : Type} (a : α) (l : List α) (k : α → Bool) : nthK (a :: l) 0 k = k a := rfl
theorem nthK_s {α : Type} (a : α) (l : List α) (i : Nat) (k : α → Bool) : nthK (a :: l) (i + 1) k = nthK l i k := rfl
theorem nthK_h {α : Type} {l : List α} {i : Nat} {v : α} (h : l[i]? = some v) (k : α → Bool) : nthK l i k = k v := by
  induction l generalizing i with
  | nil => cases h
  | cons a l ih =>
    cases i with
    | zero => simp at h; subst h; rfl
    | succ i => exact ih (by simpa using h)
theorem rLenS_s (b : Option Addr) (n c : Nat) (K : Value → Bool) : rLenS (.slice b n c) K = K (.int .i64 (.ofNat n)) := rfl
theorem rLenT_s (l : List UInt8) (K : Value → Bool) : rLenT (.string ⟨⟨l⟩⟩) K = K (.int .i64 (.ofNat l.length)) := lenK_eq _ _
theorem rInt_i (k j : IntKind) (n : Int) (K : Value → Bool) : rInt k (.int j n) K = K (.int k (wrapI k n)) := by
  show forceI (wrapI k n) (fun n => K (.int k n)) = _
  rw [forceI_eq]
theorem cellsK_h {σ : St} {i : Nat} {vs : List Value} {e : TypeId} {c : CK} (h : σ.obj i = some (.cells vs e c)) (k : List Value → TypeId → CK → Bool) : cellsK σ i k = k vs e c := by
  unfold cellsK; rw [getK_eq]
  have h : σ.h.get i = some (.cells vs e c) := h
  rw [h]
theorem rLd_h {σ : St} {i o : Nat} {vs : List Value} {e : TypeId} {c : CK} {v : Value} (h : σ.obj i = some (.cells vs e c)) (hv : vs[o]? = some v) (K : VK) : rLd (.pointer (some ⟨i, o, none⟩)) σ K = K v σ := by
  show cellsK σ i (fun vs _ _ => nthK vs o fun v => K v σ) = _
  rw [cellsK_h h, nthK_h hv]
theorem readK_h {σ : St} {i o n : Nat} {vs : List Value} {e : TypeId} {c : CK} (h : σ.obj i = some (.cells vs e c)) (hn : o + n ≤ vs.length) (k : List Value → Bool) : readK σ i o n k = k ((vs.drop o).take n) := by
  show cellsK σ i (fun vs _ _ => dropK o vs fun l => takeK n l k) = _
  rw [cellsK_h h, dropK_eq, if_pos (by omega), takeK_eq, if_pos (by simp; omega)]
theorem rLdN_h {σ : St} {i o n : Nat} {vs : List Value} {e : TypeId} {c : CK} (h : σ.obj i = some (.cells vs e c)) (hn : o + n ≤ vs.length) (K : VK) : rLdN n (.pointer (some ⟨i, o, none⟩)) σ K = K (.agg ⟨(vs.drop o).take n⟩) σ := by
  show readK σ i o n (fun l => K (.agg ⟨l⟩) σ) = _
  rw [readK_h h hn]
/-- what has one cell -/
theorem cellsOf_one {v : Value} (h : oneCell v = true) (k : List Value → Bool) : cellsOfK v k = k [v] := by cases v <;> first | rfl | cases h
theorem rSt_exact {σ : St} {i o : Nat} {vs : List Value} {e : TypeId} {v : Value} (h : σ.obj i = some (.cells vs e .exact)) (ho : o < vs.length) (h1 : oneCell v = true) (k : St → Bool) :
    rSt 1 (.pointer (some ⟨i, o, none⟩)) v σ k = k (σ.set i (.cells (vs.set o v) e .exact)) := by
  show cellsOfK v (fun cs => lenK cs fun m => match Nat.beq m 1 with | true => writeK σ i o cs k | false => false) = _
  rw [cellsOf_one h1, lenK_eq]
  show writeK σ i o [v] k = _
  unfold writeK
  rw [cellsK_h h]
  show spliceK o [v] vs (fun vs => setK σ i (.cells vs e .exact) k) = _
  rw [spliceK_eq, if_pos (by simp; omega), setK_eq]
  congr 2
  unfold splice
  rw [List.set_eq_take_append_cons_drop, if_pos ho]
  simp
theorem rSt_rs {σ : St} {i o : Nat} {vs : List Value} {e : TypeId} {j : IntKind} {z : Int} (h : σ.obj i = some (.cells vs e .rs)) (hv : vs[o]? = some (.int j z)) (k : St → Bool) :
    rSt 1 (.pointer (some ⟨i, o, none⟩)) (.int j z) σ k = k σ := by
  show cellsOfK (.int j z) (fun cs => lenK cs fun m => match Nat.beq m 1 with | true => writeK σ i o cs k | false => false) = _
  rw [cellsOf_one rfl, lenK_eq]
  show writeK σ i o [.int j z] k = _
  unfold writeK
  rw [cellsK_h h]
  have ho : o < vs.length := (List.getElem?_eq_some_iff.1 hv).1
  show dropK o vs (fun l => match asIs [.int j z] l with | true => k σ | false => false) = _
  rw [dropK_eq, if_pos (by omega)]
  have hd : vs.drop o = .int j z :: vs.drop (o + 1) := by
    rw [List.drop_eq_getElem_cons ho]
    congr 1
    exact (List.getElem?_eq_some_iff.1 hv).2
  rw [hd]
  have : asIs [.int j z] (.int j z :: vs.drop (o + 1)) = true := by
    show (match kindEq j j with | true => (match eqI z z with | true => true | false => false) | false => false) = true
    have h1 : kindEq j j = true := by cases j <;> rfl
    have h2 : eqI z z = true := by rw [eqI_eq]; simp
    rw [h1, h2]
  rw [this]
theorem rSt_gr {σ : St} {i o : Nat} {vs : List Value} {e : TypeId} {olds : List Nat} {j : IntKind} {z : Int} (h : σ.obj i = some (.cells vs e (.grown olds))) (hv : vs[o]? = some (.int j z)) (k : St → Bool) :
    rSt 1 (.pointer (some ⟨i, o, none⟩)) (.int j z) σ k = k σ := by
  show cellsOfK (.int j z) (fun cs => lenK cs fun m => match Nat.beq m 1 with | true => writeK σ i o cs k | false => false) = _
  rw [cellsOf_one rfl, lenK_eq]
  show writeK σ i o [.int j z] k = _
  unfold writeK
  rw [cellsK_h h]
  have ho : o < vs.length := (List.getElem?_eq_some_iff.1 hv).1
  show dropK o vs (fun l => match asIs [.int j z] l with | true => k σ | false => spliceK o [.int j z] vs fun vs => killK olds σ.h fun h => putK (.cells vs e (.grown [])) (Nat.succ i) h i fun h => k ⟨h, σ.n⟩) = _
  rw [dropK_eq, if_pos (by omega)]
  have hd : vs.drop o = .int j z :: vs.drop (o + 1) := by
    rw [List.drop_eq_getElem_cons ho]
    congr 1
    exact (List.getElem?_eq_some_iff.1 hv).2
  rw [hd]
  have : asIs [.int j z] (.int j z :: vs.drop (o + 1)) = true := by
    show (match kindEq j j with | true => (match eqI z z with | true => true | false => false) | false => false) = true
    have h1 : kindEq j j = true := by cases j <;> rfl
    have h2 : eqI z z = true := by rw [eqI_eq]; simp
    rw [h1, h2]
  rw [this]
theorem rAlloc_h (z : List Value) (t : TypeId) (σ : St) (K : VK) : rAlloc z t σ K = K (.pointer (some ⟨σ.n, 0, none⟩)) (σ.new (.cells z t .exact)) := by
  unfold rAlloc layK
  have : ∀ (z : List Value) (k : List Value → Bool), lrec (β := (List Value → Bool) → Bool) (fun k => k []) (fun a _ ih k => ih fun t => k (a :: t)) z k = k z := by
    intro z
    induction z with
    | nil => intro k; rfl
    | cons a z ih => intro k; exact ih _
  rw [this, newK_eq]
theorem boxK_agg {cs : List Value} (h : cs.all oneCell = true) (t : TypeId) (σ : St) (K : VK) : boxK t (.agg ⟨cs⟩) σ K = K (.pointer (some ⟨σ.n, 0, none⟩)) (σ.new (.cells cs t .exact)) := by
  show (match allB oneCell cs with | true => newK σ (.cells cs t .exact) (fun i σ => K (.pointer (some ⟨i, 0, none⟩)) σ) | false => false) = _
  rw [allB_eq, h, newK_eq]
theorem boxK_one {v : Value} (h : oneCell v = true) (t : TypeId) (σ : St) (K : VK) : boxK t v σ K = K (.pointer (some ⟨σ.n, 0, none⟩)) (σ.new (.cells [v] t .exact)) := by
  unfold boxK; rw [cellsOf_one h, newK_eq]
/-! numbers -/
theorem rBin_i (op : BinOp) (t : TypeId) (k : IntKind) (a b : Int) (K : Value → Bool) (h1 : op ≠ .shl) (h2 : op ≠ .shr) : rBin P op t (.int k a) (.int k b) K = intBinK op k a b K := by
  rw [rBin_eq]
  have hk : kindEq k k = true := by cases k <;> rfl
  cases op <;> first | exact absurd rfl h1 | exact absurd rfl h2 | (show (match kindEq k k with | true => _ | false => false) = _; rw [hk])
theorem rBin_lss (t : TypeId) (k : IntKind) (a b : Int) (K : Value → Bool) : rBin P .lss t (.int k a) (.int k b) K = K (.bool (decide (a < b))) := by
  rw [rBin_i _ _ _ _ _ _ (by simp) (by simp)]; simp only [intBinK, boolK_eq, ltI_eq]
theorem rBin_gtr (t : TypeId) (k : IntKind) (a b : Int) (K : Value → Bool) : rBin P .gtr t (.int k a) (.int k b) K = K (.bool (decide (b < a))) := by
  rw [rBin_i _ _ _ _ _ _ (by simp) (by simp)]; simp only [intBinK, boolK_eq, ltI_eq]
theorem rBin_eql (t : TypeId) (k : IntKind) (a b : Int) (K : Value → Bool) : rBin P .eql t (.int k a) (.int k b) K = K (.bool (a == b)) := by
  rw [rBin_i _ _ _ _ _ _ (by simp) (by simp)]; simp only [intBinK, boolK_eq, eqI_eq]
theorem rBin_geq (t : TypeId) (k : IntKind) (a b : Int) (K : Value → Bool) : rBin P .geq t (.int k a) (.int k b) K = K (.bool (!decide (a < b))) := by
  rw [rBin_i _ _ _ _ _ _ (by simp) (by simp)]; simp only [intBinK, boolK_eq, ltI_eq]
theorem wrapI_nat {n : Nat} (h : n < 9223372036854775808) : wrapI .i64 (.ofNat n) = .ofNat n := by
  show (match Nat.blt n 9223372036854775808 with | true => _ | false => _) = _
  have : Nat.blt n 9223372036854775808 = true := Nat.ble_eq_true_of_le h
  rw [this]
theorem rBin_add (t : TypeId) (a b : Nat) (K : Value → Bool) (h : a + b < 9223372036854775808) : rBin P .add t (.int .i64 (.ofNat a)) (.int .i64 (.ofNat b)) K = K (.int .i64 (.ofNat (a + b))) := by
  rw [rBin_i _ _ _ _ _ _ (by simp) (by simp)]
  show intK .i64 (.ofNat (a + b)) K = _
  unfold intK
  rw [forceI_eq, wrapI_nat h]
theorem rBin_mul (t : TypeId) (a b : Nat) (K : Value → Bool) (h : a * b < 9223372036854775808) : rBin P .mul t (.int .i64 (.ofNat a)) (.int .i64 (.ofNat b)) K = K (.int .i64 (.ofNat (a * b))) := by
  rw [rBin_i _ _ _ _ _ _ (by simp) (by simp)]
  show intK .i64 (.ofNat (a * b)) K = _
  unfold intK
  rw [forceI_eq, wrapI_nat h]
theorem rBin_quo (t : TypeId) (a b : Nat) (K : Value → Bool) (hb : 0 < b) (h : a < 9223372036854775808) : rBin P .quo t (.int .i64 (.ofNat a)) (.int .i64 (.ofNat b)) K = K (.int .i64 (.ofNat (a / b))) := by
  rw [rBin_i _ _ _ _ _ _ (by simp) (by simp)]
  show (match eqI (.ofNat b) 0 with | true => false | false => intK .i64 (Int.tdiv (.ofNat a) (.ofNat b)) K) = _
  have h0 : eqI (.ofNat b) 0 = false := by
    cases b with
    | zero => omega
    | succ b => rfl
  rw [h0]
  show intK .i64 (.ofNat (a / b)) K = _
  unfold intK
  rw [forceI_eq, wrapI_nat (Nat.lt_of_le_of_lt (Nat.div_le_self a b) h)]
theorem rBin_lssN (t : TypeId) (k : IntKind) (a b : Nat) (K : Value → Bool) : rBin P .lss t (.int k (.ofNat a)) (.int k (.ofNat b)) K = K (.bool (decide (a < b))) := by
  rw [rBin_lss]; congr 3; exact propext (Int.ofNat_lt (n := a) (m := b))
theorem rBin_gtrN (t : TypeId) (k : IntKind) (a b : Nat) (K : Value → Bool) : rBin P .gtr t (.int k (.ofNat a)) (.int k (.ofNat b)) K = K (.bool (decide (b < a))) := by
  rw [rBin_gtr]; congr 3; exact propext (Int.ofNat_lt (n := b) (m := a))
theorem rBin_geqN (t : TypeId) (k : IntKind) (a b : Nat) (K : Value → Bool) : rBin P .geq t (.int k (.ofNat a)) (.int k (.ofNat b)) K = K (.bool (decide (b ≤ a))) := by
  rw [rBin_geq]; congr 2
  have : (Int.ofNat a < Int.ofNat b) = (a < b) := propext (Int.ofNat_lt (n := a) (m := b))
  by_cases h : a < b
  · have h2 : ¬ b ≤ a := by omega
    have h1 : Int.ofNat a < Int.ofNat b := by rw [this]; exact h
    rw [decide_eq_true h1, decide_eq_false h2]; rfl
  · have h2 : b ≤ a := by omega
    have h1 : ¬ Int.ofNat a < Int.ofNat b := by rw [this]; exact h
    rw [decide_eq_false h1, decide_eq_true h2]; rfl
theorem rBin_eqlN (t : TypeId) (k : IntKind) (a b : Nat) (K : Value → Bool) : rBin P .eql t (.int k (.ofNat a)) (.int k (.ofNat b)) K = K (.bool (decide (a = b))) := by
  rw [rBin_eql]; congr 2
  by_cases h : a = b
  · subst h; simp
  · rw [decide_eq_false h]
    have : ¬ (Int.ofNat a = Int.ofNat b) := fun e => h (Int.ofNat.inj e)
    simpa using this
/-! rows -/
theorem rIdx_n (size b o i len cap : Nat) (h : i < len) (K : Value → Bool) : rIdx size (.slice (some ⟨b, o, none⟩) len cap) (.int .i64 (.ofNat i)) K = K (.pointer (some ⟨b, o + i * size, none⟩)) := by
  show (match Nat.blt i len with | true => forceN (o + i * size) (fun o => K (.pointer (some ⟨b, o, none⟩))) | false => false) = _
  have : Nat.blt i len = true := Nat.ble_eq_true_of_le h
  rw [this, forceN_eq]
theorem rIdx_z (size b o i len cap : Nat) (h : i < len) (K : Value → Bool) : rIdx size (.slice (some ⟨b, o, some 0⟩) len cap) (.int .i64 (.ofNat i)) K = K (.pointer (some ⟨b, o + i * size, none⟩)) := by
  show (match Nat.blt i len with | true => forceN (o + i * size) (fun o => K (.pointer (some ⟨b, o, none⟩))) | false => false) = _
  have : Nat.blt i len = true := Nat.ble_eq_true_of_le h
  rw [this, forceN_eq]
/-! the heap -/
theorem obj_new_old {σ : St} {o : AObj} {i : Nat} (h : i ≠ σ.n) : (σ.new o).obj i = σ.obj i := by rw [obj_new, if_neg h]
theorem obj_new_same {σ : St} {o : AObj} : (σ.new o).obj σ.n = some o := by rw [obj_new, if_pos rfl]
theorem new_n {σ : St} {o : AObj} : (σ.new o).n = σ.n + 1 := rfl
theorem set_n {σ : St} {i : Nat} {o : AObj} : (σ.set i o).n = σ.n := rfl
theorem obj_set_same {σ : St} {i : Nat} {o : AObj} : (σ.set i o).obj i = some o := by rw [obj_set, if_pos rfl]
theorem obj_set_other {σ : St} {i j : Nat} {o : AObj} (h : j ≠ i) : (σ.set i o).obj j = σ.obj j := by rw [obj_set, if_neg h]
/-! appending -/
def bytesV (l : List UInt8) : List Value := l.map fun b => .int .u8 (.ofNat b.toNat)
/-- what is appended: how many elements, which cells -/
structure Src (σ : St) (size : Nat) (x : Value) (n : Nat) (new : List Value) : Prop where
  len : ∀ k, lenVK x k = k n
  first : ∀ k, n ≠ 0 → firstK σ size n x k = k new
  one : ∀ v ∈ new, oneCell v = true
theorem Src.text (σ : St) (l : List UInt8) : Src σ 1 (.string ⟨⟨l⟩⟩) l.length (bytesV l) := by
  refine ⟨fun k => lenK_eq _ _, fun k h => ?_, fun v hv => ?_⟩
  · show takeK l.length l (fun l => u8sK l k) = _
    rw [takeK_eq, if_pos (Nat.le_refl _), List.take_length, u8sK_eq]
    rfl
  · obtain ⟨b, _, rfl⟩ := List.mem_map.1 hv
    rfl
theorem Src.row {σ : St} {i o n c size : Nat} {vs : List Value} {e : TypeId} {ck : CK} (h : σ.obj i = some (.cells vs e ck)) (hn : o + n * size ≤ vs.length) (h1 : ∀ v ∈ (vs.drop o).take (n * size), oneCell v = true) : Src σ size (.slice (some ⟨i, o, none⟩) n c) n ((vs.drop o).take (n * size)) := by
  refine ⟨fun k => rfl, fun k hz => ?_, h1⟩
  obtain ⟨m, rfl⟩ := Nat.exists_eq_succ_of_ne_zero hz
  show readK σ i o ((m + 1) * size) k = _
  rw [readK_h h hn]
theorem rApp_zero {elem size bytes : Nat} {σ : St} {x : Value} {new : List Value} {b : Option Addr} {m : Nat} (hx : Src σ size x 0 new) (K : VK) : rApp P elem size bytes (.slice b m m) x σ K = K (.slice b m m) σ := by
  show lenVK x _ = _
  rw [hx.len]
  show (match Nat.ble m m with | true => K (.slice b m m) σ | false => false) = _
  have : Nat.ble m m = true := Nat.ble_eq_true_of_le (Nat.le_refl m)
  rw [this]
theorem rApp_nil {elem size bytes n : Nat} {σ : St} {x : Value} {new : List Value} (hx : Src σ size x n new) (hz : n ≠ 0) (hb : n * (bytes + 1) ≤ 1099511627776) (K : VK) :
    rApp P elem size bytes (.slice none 0 0) x σ K = K (.slice (some ⟨σ.n, 0, some 0⟩) n n) (σ.new (.cells new elem (.grown []))) := by
  obtain ⟨m, rfl⟩ := Nat.exists_eq_succ_of_ne_zero hz
  show lenVK x _ = _
  rw [hx.len]
  show firstK σ size (m + 1) x _ = _
  rw [hx.first _ hz]
  simp only [forceN_eq, Nat.zero_add]
  rw [show Nat.ble ((m + 1) * (bytes + 1)) 1099511627776 = true from Nat.ble_eq_true_of_le hb]
  have : Nat.ble (m + 1) 0 = false := rfl
  simp only [this]
  show growK elem [] new (m + 1) none σ K = _
  unfold growK
  rw [appK_eq]
  simp only [List.nil_append, newK_eq]
theorem rApp_row {elem size bytes n m j : Nat} {σ : St} {x : Value} {new vs : List Value} {olds : List Nat} (hx : Src σ size x n new) (hz : n ≠ 0) (hb : (m + n) * (bytes + 1) ≤ 1099511627776)
    (hj : σ.obj j = some (.cells vs elem (.grown olds))) (hv : vs.length = m * size) (hs : sizeT P elem = some size) (K : VK) :
    rApp P elem size bytes (.slice (some ⟨j, 0, some 0⟩) m m) x σ K = K (.slice (some ⟨σ.n, 0, some 0⟩) (m + n) (m + n)) ((σ.set j (.cells vs elem .stale)).new (.cells (vs ++ new) elem (.grown (j :: olds)))) := by
  obtain ⟨p, rfl⟩ := Nat.exists_eq_succ_of_ne_zero hz
  show lenVK x _ = _
  rw [hx.len]
  show firstK σ size (p + 1) x _ = _
  rw [hx.first _ hz]
  simp only [forceN_eq]
  rw [show Nat.ble ((m + (p + 1)) * (bytes + 1)) 1099511627776 = true from Nat.ble_eq_true_of_le hb]
  have : Nat.ble (m + (p + 1)) m = false := by
    cases h : Nat.ble (m + (p + 1)) m with
    | false => rfl
    | true => have := Nat.le_of_ble_eq_true h; omega
  simp only [this]
  show cellsK σ j _ = _
  rw [cellsK_h hj]
  simp only [lenK_eq, Nat.zero_add, hv, hs]
  have hone : allB oneCell new = true := by rw [allB_eq]; exact List.all_eq_true.2 hx.one
  simp only [show Nat.beq (m * size) (m * size) = true from Nat.beq_refl _, show Nat.beq size size = true from Nat.beq_refl _, show Nat.beq elem elem = true from Nat.beq_refl _, hone]
  rw [readK_h hj (by omega)]
  rw [List.drop_zero, ← hv, List.take_length]
  show growK elem vs new (m + (p + 1)) (some (j, vs, elem, olds)) σ K = _
  unfold growK
  rw [appK_eq]
  simp only [setK_eq, newK_eq]
  rfl
end
end Go.Am

namespace Go.Am
open Go.RowKit Go.MapKept
/-- memory other than some rows (and what is new) is as it was -/
structure Fr' (B : Nat → Prop) (σ σ' : St) (B' : Nat → Prop) : Prop where
  n : σ.n ≤ σ'.n
  same : ∀ i, i < σ.n → ¬ B i → σ'.obj i = σ.obj i
  sub : ∀ i, B' i → B i ∨ σ.n ≤ i
theorem Fr'.trans {B B1 B2 : Nat → Prop} {σ σ1 σ2 : St} (h : Fr' B σ σ1 B1) (k : Fr' B1 σ1 σ2 B2) : Fr' B σ σ2 B2 := by
  refine ⟨Nat.le_trans h.n k.n, fun i hi hb => ?_, fun i hi => ?_⟩
  · rw [k.same i (Nat.lt_of_lt_of_le hi h.n) (fun hb1 => ?_), h.same i hi hb]
    rcases h.sub i hb1 with h1 | h1
    · exact hb h1
    · omega
  · rcases k.sub i hi with h1 | h1
    · exact h.sub i h1
    · exact .inr (Nat.le_trans h.n h1)
theorem Fr'.refl (B : Nat → Prop) (σ : St) : Fr' B σ σ B := ⟨Nat.le_refl _, fun _ _ _ => rfl, fun _ h => .inl h⟩
theorem Fr'.new (B : Nat → Prop) (σ : St) (o : AObj) : Fr' B σ (σ.new o) B := ⟨Nat.le_succ _, fun _i hi _ => obj_new_old (Nat.ne_of_lt hi), fun _ h => .inl h⟩
inductive It where
  | num
  | kind
  | int
  | is
  | text
  | nums
  | list (its : List It)
inductive D where
  | n (z : Int)
  | b (v : Bool)
  | s (l : List UInt8)
  | l (es : List (List D))
/-- rows that may be read, and written with what is there -/
def Wr (c : CK) : Prop := c = .rs ∨ c = .exact ∨ ∃ l, c = .grown l
/-- memory that may turn: not these -/
inductive Rd (σ : St) (C : Nat → Prop) : It → Value → D → Prop where
  | num {z : Nat} (h : z < 18446744073709551616) : Rd σ C .num (.int .u64 (.ofNat z)) (.n z)
  | kind {z : Nat} (h : z < 256) : Rd σ C .kind (.int .u8 (.ofNat z)) (.n z)
  | int {z : Int} (h1 : -9223372036854775808 ≤ z) (h2 : z < 9223372036854775808) : Rd σ C .int (.int .i64 z) (.n z)
  | is {v : Bool} : Rd σ C .is (.bool v) (.b v)
  | text {l : List UInt8} (h : l.length ≤ 140737488355328) : Rd σ C .text (.string ⟨⟨l⟩⟩) (.s l)
  | nums {v : Value} {es : List (List D)} (h : Rd σ C (.list [.num]) v (.l es)) : Rd σ C .nums v (.l es)
  | empty {its : List It} : Rd σ C (.list its) (.slice none 0 0) (.l [])
  | emptyR {its : List It} {b o s : Nat} : Rd σ C (.list its) (.slice (some ⟨b, o, some (s + 2)⟩) 0 0) (.l [])
  | row {its : List It} {b o n c : Nat} {sp : Option Nat} {vs : List Value} {e : TypeId} {ck : CK} {es : List (List D)} (hsp : spOk sp = true) (hb : b < σ.n) (hC : ¬ C b) (ho : σ.obj b = some (.cells vs e ck)) (hw : Wr ck)
      (hn : es.length = n) (hl : o + n * its.length ≤ vs.length) (hd : ∀ ds ∈ es, ds.length = its.length) (hN : n ≤ 140737488355328)
      (hr : ∀ (k : Nat) (ds : List D) (j : Nat) (it : It) (v : Value) (d : D), es[k]? = some ds → its[j]? = some it → vs[o + k * its.length + j]? = some v → ds[j]? = some d → Rd σ C it v d) : Rd σ C (.list its) (.slice (some ⟨b, o, sp⟩) n c) (.l es)
theorem Rd.fr {σ σ' : St} {C C' : Nat → Prop} (f : Fr' C σ σ' C') {it : It} {v : Value} {d : D} (h : Rd σ C it v d) : Rd σ' C' it v d := by
  induction h with
  | num h => exact .num h
  | kind h => exact .kind h
  | int h1 h2 => exact .int h1 h2
  | is => exact .is
  | text h => exact .text h
  | nums _ ih => exact .nums ih
  | empty => exact .empty
  | emptyR => exact .emptyR
  | row hsp hb hC ho hw hn hl hd hN _ ih =>
    refine .row hsp (Nat.lt_of_lt_of_le hb f.n) (fun h => ?_) (by rw [f.same _ hb hC]; exact ho) hw hn hl hd hN ih
    rcases f.sub _ h with h | h
    · exact hC h
    · omega
/-- a struct that lies somewhere -/
structure Stc (σ : St) (C : Nat → Prop) (its : List It) (b o : Nat) (ds : List D) : Prop where
  row : ∃ vs e ck, σ.obj b = some (.cells vs e ck) ∧ Wr ck ∧ o + its.length ≤ vs.length ∧ ∀ (j : Nat) (it : It) (v : Value) (d : D), its[j]? = some it → vs[o + j]? = some v → ds[j]? = some d → Rd σ C it v d
  lt : b < σ.n
  nC : ¬ C b
  len : ds.length = its.length
theorem Stc.fr {σ σ' : St} {C C' : Nat → Prop} {its : List It} {b o : Nat} {ds : List D} (h : Stc σ C its b o ds) (f : Fr' C σ σ' C') : Stc σ' C' its b o ds := by
  obtain ⟨vs, e, ck, h1, h2, h3, h4⟩ := h.row
  refine ⟨⟨vs, e, ck, by rw [f.same b h.lt h.nC]; exact h1, h2, h3, fun j it v d a b c => (h4 j it v d a b c).fr f⟩, Nat.lt_of_lt_of_le h.lt f.n, fun hc => ?_, h.len⟩
  rcases f.sub _ hc with hc | hc
  · exact h.nC hc
  · have := h.lt; omega
/-- a cell -/
structure CellAt (σ : St) (C : Nat → Prop) (it : It) (b o : Nat) (d : D) : Prop where
  row : ∃ vs e ck v, σ.obj b = some (.cells vs e ck) ∧ Wr ck ∧ vs[o]? = some v ∧ Rd σ C it v d
  lt : b < σ.n
  nC : ¬ C b
theorem CellAt.fr {σ σ' : St} {C C' : Nat → Prop} {it : It} {b o : Nat} {d : D} (h : CellAt σ C it b o d) (f : Fr' C σ σ' C') : CellAt σ' C' it b o d := by
  obtain ⟨vs, e, ck, v, h1, h2, h3, h4⟩ := h.row
  refine ⟨⟨vs, e, ck, v, by rw [f.same b h.lt h.nC]; exact h1, h2, h3, h4.fr f⟩, Nat.lt_of_lt_of_le h.lt f.n, fun hc => ?_⟩
  rcases f.sub _ hc with hc | hc
  · exact h.nC hc
  · have := h.lt; omega
theorem Stc.cell {σ : St} {C : Nat → Prop} {its : List It} {b o : Nat} {ds : List D} (h : Stc σ C its b o ds) (j : Nat) {it : It} (hj : its[j]? = some it) : ∃ d, ds[j]? = some d ∧ CellAt σ C it b (o + j) d := by
  obtain ⟨vs, e, ck, h1, h2, h3, h4⟩ := h.row
  have hlt := (List.getElem?_eq_some_iff.1 hj).1
  have hv : vs[o + j]? = some (vs[o + j]'(by omega)) := List.getElem?_eq_getElem _
  have hd : ds[j]? = some (ds[j]'(by rw [h.len]; omega)) := List.getElem?_eq_getElem _
  exact ⟨_, hd, ⟨vs, e, ck, _, h1, h2, hv, h4 j it _ _ hj hv hd⟩, h.lt, h.nC⟩
/-- a part of a struct -/
theorem Stc.part {σ : St} {C : Nat → Prop} {its : List It} {b o : Nat} {ds : List D} (h : Stc σ C its b o ds) (k m : Nat) (hk : k + m ≤ its.length) : Stc σ C ((its.drop k).take m) b (o + k) ((ds.drop k).take m) := by
  obtain ⟨vs, e, ck, h1, h2, h3, h4⟩ := h.row
  refine ⟨⟨vs, e, ck, h1, h2, by simp; omega, fun j it v d a b c => ?_⟩, h.lt, h.nC, by simp [h.len]⟩
  rw [List.getElem?_take] at a c
  split at a
  · rename_i hj
    rw [if_pos hj, List.getElem?_drop] at c
    rw [List.getElem?_drop] at a
    exact h4 (k + j) it v d a (by rw [← Nat.add_assoc]; exact b) c
  · cases a
/-- an element of a list -/
theorem Rd.elem {σ : St} {C : Nat → Prop} {its : List It} {v : Value} {es : List (List D)} (h : Rd σ C (.list its) v (.l es)) {k : Nat} {ds : List D} (hk : es[k]? = some ds) :
    ∃ b o sp c, v = .slice (some ⟨b, o, sp⟩) es.length c ∧ spOk sp = true ∧ Stc σ C its b (o + k * its.length) ds := by
  cases h with
  | empty => simp at hk
  | emptyR => simp at hk
  | @row _ b o n c sp vs e ck _ hsp hb hC ho hw hn hl hd hN hr =>
    subst hn
    have hlt := (List.getElem?_eq_some_iff.1 hk).1
    have hle : k * its.length + its.length ≤ es.length * its.length := by
      have : (k + 1) * its.length ≤ es.length * its.length := Nat.mul_le_mul_right _ hlt
      rwa [Nat.add_mul, Nat.one_mul] at this
    exact ⟨b, o, sp, c, rfl, hsp, ⟨vs, e, ck, ho, hw, by omega, fun j it v d a b c => hr k ds j it v d hk a b c⟩, hb, hC, hd ds (List.mem_of_getElem? hk)⟩
theorem Rd.len {σ : St} {C : Nat → Prop} {its : List It} {v : Value} {es : List (List D)} (h : Rd σ C (.list its) v (.l es)) : (∃ b c, v = .slice b es.length c) ∧ es.length ≤ 140737488355328 := by
  cases h with
  | empty => exact ⟨⟨_, _, rfl⟩, by simp⟩
  | emptyR => exact ⟨⟨_, _, rfl⟩, by simp⟩
  | row hsp hb hC ho hw hn hl hd hN hr => subst hn; exact ⟨⟨_, _, rfl⟩, hN⟩
theorem Rd.num_inv {σ : St} {C : Nat → Prop} {v : Value} {d : D} (h : Rd σ C .num v d) : ∃ z : Nat, v = .int .u64 (.ofNat z) ∧ d = .n z ∧ z < 18446744073709551616 := by
  cases h with | num h => exact ⟨_, rfl, rfl, h⟩
theorem Rd.kind_inv {σ : St} {C : Nat → Prop} {v : Value} {d : D} (h : Rd σ C .kind v d) : ∃ z : Nat, v = .int .u8 (.ofNat z) ∧ d = .n z ∧ z < 256 := by
  cases h with | kind h => exact ⟨_, rfl, rfl, h⟩
theorem Rd.int_inv {σ : St} {C : Nat → Prop} {v : Value} {d : D} (h : Rd σ C .int v d) : ∃ z : Int, v = .int .i64 z ∧ d = .n z ∧ -9223372036854775808 ≤ z ∧ z < 9223372036854775808 := by
  cases h with | int h1 h2 => exact ⟨_, rfl, rfl, h1, h2⟩
theorem Rd.is_inv {σ : St} {C : Nat → Prop} {v : Value} {d : D} (h : Rd σ C .is v d) : ∃ z : Bool, v = .bool z ∧ d = .b z := by
  cases h with | is => exact ⟨_, rfl, rfl⟩
theorem Rd.text_inv {σ : St} {C : Nat → Prop} {v : Value} {d : D} (h : Rd σ C .text v d) : ∃ l, v = .string ⟨⟨l⟩⟩ ∧ d = .s l ∧ l.length ≤ 140737488355328 := by
  cases h with | text h => exact ⟨_, rfl, rfl, h⟩
theorem Rd.list_inv {σ : St} {C : Nat → Prop} {its : List It} {v : Value} {d : D} (h : Rd σ C (.list its) v d) : ∃ es, d = .l es := by
  cases h with | empty => exact ⟨_, rfl⟩ | emptyR => exact ⟨_, rfl⟩ | row => exact ⟨_, rfl⟩
theorem rIdx_sp (size b o i len cap : Nat) (sp : Option Nat) (hs : spOk sp = true) (h : i < len) (K : Value → Bool) : rIdx size (.slice (some ⟨b, o, sp⟩) len cap) (.int .i64 (.ofNat i)) K = K (.pointer (some ⟨b, o + i * size, none⟩)) := by
  match sp, hs with
  | none, _ => exact rIdx_n size b o i len cap h K
  | some 0, _ => exact rIdx_z size b o i len cap h K
/-- nothing that was there has turned -/
structure Ext' (σ σ' : St) : Prop where
  n : σ.n ≤ σ'.n
  same : ∀ i, i < σ.n → σ'.obj i = σ.obj i
theorem Ext'.fr {σ σ' : St} (h : Ext' σ σ') (B : Nat → Prop) : Fr' B σ σ' B := ⟨h.n, fun i hi _ => h.same i hi, fun _ hi => .inl hi⟩
theorem Ext'.refl (σ : St) : Ext' σ σ := ⟨Nat.le_refl _, fun _ _ => rfl⟩
/-- what was made alone has turned -/
theorem Fr'.ext {B B' : Nat → Prop} {σ σ' σ0 : St} (h : Fr' B σ σ' B') (h0 : Ext' σ0 σ) (hB : ∀ i, B i → σ0.n ≤ i) : Ext' σ0 σ' :=
  ⟨Nat.le_trans h0.n h.n, fun i hi => by rw [h.same i (Nat.lt_of_lt_of_le hi h0.n) (fun hb => by have := hB i hb; omega), h0.same i hi]⟩
/-- a struct's cells, as a value -/
structure RdA (σ : St) (C : Nat → Prop) (its : List It) (cs : List Value) (ds : List D) : Prop where
  len : cs.length = its.length
  dlen : ds.length = its.length
  rd : ∀ (j : Nat) (it : It) (v : Value) (d : D), its[j]? = some it → cs[j]? = some v → ds[j]? = some d → Rd σ C it v d
theorem RdA.fr {σ σ' : St} {C C' : Nat → Prop} {its : List It} {cs : List Value} {ds : List D} (h : RdA σ C its cs ds) (f : Fr' C σ σ' C') : RdA σ' C' its cs ds := ⟨h.len, h.dlen, fun j it v d a b c => (h.rd j it v d a b c).fr f⟩
theorem Rd.one {σ : St} {C : Nat → Prop} {it : It} {v : Value} {d : D} (h : Rd σ C it v d) : oneCell v = true := by
  cases h with
  | nums h => cases h <;> rfl
  | _ => rfl
theorem RdA.one {σ : St} {C : Nat → Prop} {its : List It} {cs : List Value} {ds : List D} (h : RdA σ C its cs ds) : ∀ v ∈ cs, oneCell v = true := by
  intro v hv
  obtain ⟨j, hj⟩ := List.getElem?_of_mem hv
  have hlt := (List.getElem?_eq_some_iff.1 hj).1
  exact (h.rd j _ v _ (List.getElem?_eq_getElem (by rw [← h.len]; exact hlt)) hj (List.getElem?_eq_getElem (by rw [h.dlen, ← h.len]; exact hlt))).one
theorem RdA.stc {σ : St} {C : Nat → Prop} {its : List It} {cs : List Value} {ds : List D} (h : RdA σ C its cs ds) (t : TypeId) : Stc (σ.new (.cells cs t .exact)) (fun _ => False) its σ.n 0 ds := by
  have f : Fr' C σ (σ.new (.cells cs t .exact)) (fun _ => False) := ⟨Nat.le_succ _, fun i hi _ => obj_new_old (Nat.ne_of_lt hi), fun _ h => h.elim⟩
  refine ⟨⟨cs, t, .exact, obj_new_same, .inr (.inl rfl), by rw [h.len]; omega, fun j it v d a b c => ?_⟩, by rw [new_n]; omega, fun h => h, h.dlen⟩
  rw [Nat.zero_add] at b
  exact (h.rd j it v d a b c).fr f
theorem Ext'.trans {a b c : St} (h : Ext' a b) (k : Ext' b c) : Ext' a c := ⟨Nat.le_trans h.n k.n, fun i hi => by rw [k.same i (Nat.lt_of_lt_of_le hi h.n), h.same i hi]⟩
theorem Ext'.new (σ : St) (o : AObj) : Ext' σ (σ.new o) := ⟨Nat.le_succ _, fun _i hi => obj_new_old (Nat.ne_of_lt hi)⟩
theorem sameV_list {σ : St} {C : Nat → Prop} {its : List It} {v : Value} {d : D} (h : Rd σ C (.list its) v d) : sameV v v = true := by
  cases h with
  | empty => rfl
  | @emptyR _ b o s => show ((Nat.beq b b && Nat.beq o o) && Nat.beq s s) = true; simp
  | @row _ b o n c sp vs e ck es hsp =>
    match sp, hsp with
    | none, _ => show ((Nat.beq b b && Nat.beq o o) && (Nat.beq n n && Nat.beq c c)) = true; simp
    | some 0, _ => show ((Nat.beq b b && Nat.beq o o) && (Nat.beq n n && Nat.beq c c)) = true; simp
end Go.Am

namespace Go.Am
open Go.RowKit Go.MapKept
theorem mapM_some {α β : Type} {f : α → Option β} : ∀ {l : List α} {xs : List β}, l.mapM f = some xs → xs.length = l.length ∧ ∀ (i : Nat) (a : α), l[i]? = some a → ∃ x, xs[i]? = some x ∧ f a = some x := by
  intro l
  induction l with
  | nil => intro xs h; simp at h; subst h; exact ⟨rfl, fun i a h => by simp at h⟩
  | cons b l ih =>
    intro xs h
    rw [List.mapM_cons] at h
    cases hb : f b with
    | none => rw [hb] at h; cases h
    | some y =>
      rw [hb] at h
      cases hl : l.mapM f with
      | none => rw [hl] at h; cases h
      | some ys =>
        rw [hl] at h
        have h : some (y :: ys) = some xs := h
        injection h with h
        subst h
        obtain ⟨i1, i2⟩ := ih hl
        refine ⟨by simp [i1], fun i a ha => ?_⟩
        cases i with
        | zero => simp at ha; subst ha; exact ⟨y, rfl, hb⟩
        | succ i => simpa using i2 i a (by simpa using ha)
def itsF (P : Program) (g : TypeId → Option (List It)) : List Field → Nat → Option (List It)
  | [], _ => some []
  | fd :: fs, off => if fd.offset = off then match g fd.type, sizeT P fd.type with
    | some its, some m => if m = its.length then (itsF P g fs (off + m)).map (its ++ ·) else none
    | _, _ => none else none
/-- the shape of a type's values -/
def itsT (P : Program) : Nat → TypeId → Option (List It)
  | 0, _ => none
  | f + 1, t => match P.underlying t with
    | some .bool => some [.is]
    | some (.int .u64) => some [.num]
    | some (.int .u8) => some [.kind]
    | some (.int .i64) => some [.int]
    | some .string => some [.text]
    | some (.slice e) => match itsT P f e, sizeT P e, P.bytesOf e with
      | some (i :: its), some m, _ + 1 => if m = its.length + 1 then (match i, its with | .num, [] => some [.nums] | i, its => some [.list (i :: its)]) else none
      | _, _, _ => none
    | some (.struct fs) => match itsF P (itsT P f) fs.toList 0, sizeT P t with
      | some its, some m => if m = its.length then some its else none
      | _, _ => none
    | _ => none
/-- all that is known is read only, or written with what is there -/
def Lay (P : Program) (w : World) (ρ : Rn) (σ : St) : Prop := Rel P w ρ σ w ∧ ∀ i o, σ.obj i = some o → o.reads = true
section
variable {P : Program} {w : World}
theorem Lay.add {ρ : Rn} {σ : St} (h : Lay P w ρ σ) (vs : List Value) (e : TypeId) (L : Loc) {cs : Array Value} {t : TypeId} {fz : Nat × Nat} (hb : w.heap[L.b]? = some (.cells cs t fz))
    (hc : ∀ (j : Nat) (v : Value), vs[j]? = some v → ∃ v', cs[L.s + j]? = some v' ∧ VR ρ v v') (hm : sizeT P e = some L.m) (hz : ∀ j, j < vs.length → ¬ (fz.1 ≤ L.s + j ∧ L.s + j < fz.2)) :
    Lay P w (ρ.put σ.n L) (σ.new (.cells vs e .rs)) ∧ Ext ρ (ρ.put σ.n L) := by
  obtain ⟨h, hr⟩ := h
  have hnone := h.dom σ.n (Nat.le_refl _)
  have he : Ext ρ (ρ.put σ.n L) := Rn.ext_put hnone
  have hput : ∀ j M, ρ.put σ.n L j = some M → (j = σ.n ∧ M = L) ∨ (j ≠ σ.n ∧ ρ j = some M) := fun j M hj => by
    unfold Rn.put at hj
    by_cases e : j = σ.n
    · rw [if_pos e] at hj; injection hj with hj; exact .inl ⟨e, hj.symm⟩
    · rw [if_neg e] at hj; exact .inr ⟨e, hj⟩
  have hobj : ∀ j x, (σ.new (.cells vs e .rs)).obj j = some x → (j = σ.n ∧ x = .cells vs e .rs) ∨ (j ≠ σ.n ∧ σ.obj j = some x) := fun j x hx => by
    rw [obj_new] at hx
    by_cases e : j = σ.n
    · rw [if_pos e] at hx; injection hx with hx; exact .inl ⟨e, hx.symm⟩
    · rw [if_neg e] at hx; exact .inr ⟨e, hx⟩
  have hreads : ∀ j x, (σ.new (.cells vs e .rs)).obj j = some x → x.reads = true := fun j x hx => by
    rcases hobj j x hx with ⟨_, rfl⟩ | ⟨_, hx⟩
    · rfl
    · exact hr j x hx
  have hlt : L.b < w.heap.size := (Array.getElem?_eq_some_iff.1 hb).1
  refine ⟨⟨⟨fun g hg => let ⟨M, h1, h2⟩ := h.glob g hg; ⟨M, he _ _ h1, h2⟩, fun j x hx => ?_, fun j hj => ?_, fun j x hx => ?_, fun j M hj => ?_, fun i j a b M N hij ha hb' _ _ _ _ _ => .inl ⟨hreads i a ha, hreads j b hb'⟩, fun j us e' olds hj i hi => ?_, h.base⟩, hreads⟩, he⟩
  · rcases hobj j x hx with ⟨rfl, rfl⟩ | ⟨_, hx⟩
    · exact ⟨L, cs, t, fz, Rn.put_same _ _ _, hb, fun j v hv => let ⟨v', a, b⟩ := hc j v hv; ⟨v', a, b.mono he⟩, hm, hz⟩
    · exact (h.objs j x hx).frame he fun _ _ => rfl
  · have hj' : σ.n + 1 ≤ j := hj
    unfold Rn.put; rw [if_neg (by omega)]; exact h.dom j (by omega)
  · rcases hobj j x hx with ⟨rfl, _⟩ | ⟨_, hx⟩
    · exact Nat.lt_succ_self _
    · exact Nat.lt_succ_of_lt (h.lt j x hx)
  · rcases hput j M hj with ⟨_, rfl⟩ | ⟨_, hM⟩
    · exact hlt
    · exact h.loc j M hM
  · have := hreads j _ hj
    simp [AObj.reads] at this
/-- what laying some cells comes to -/
def Laying (P : Program) (w : World) (cs : List Value) (its : List It) : Prop :=
  ∀ (ρ : Rn) (σ : St), Lay P w ρ σ → ∃ ρ' σ' vs ds, Ext ρ ρ' ∧ Lay P w ρ' σ' ∧ Ext' σ σ' ∧ VRs ρ' vs cs ∧ RdA σ' (fun _ => False) its vs ds
theorem Ext'.none {σ σ' : St} (h : Ext' σ σ') : Fr' (fun _ => False) σ σ' (fun _ => False) := h.fr _
theorem Laying.plain {v : Value} {it : It} {d : D} (hf : flat0 v = true) (hr : ∀ σ, Rd σ (fun _ => False) it v d) : Laying P w [v] [it] := fun ρ σ h =>
  ⟨ρ, σ, [v], [d], .refl ρ, h, .refl σ, .cons (.flat hf) (.nil ρ), rfl, rfl, fun j it' v' d' a b c => by
    cases j with
    | zero => simp at a b c; subst a b c; exact hr σ
    | succ j => simp at a⟩
/-- cells behind cells -/
theorem Laying.append {a b : List Value} {x y : List It} (h : Laying P w a x) (k : Laying P w b y) : Laying P w (a ++ b) (x ++ y) := fun ρ σ hl => by
  obtain ⟨ρ1, σ1, v1, d1, e1, l1, x1, r1, s1⟩ := h ρ σ hl
  obtain ⟨ρ2, σ2, v2, d2, e2, l2, x2, r2, s2⟩ := k ρ1 σ1 l1
  refine ⟨ρ2, σ2, v1 ++ v2, d1 ++ d2, e1.trans e2, l2, x1.trans x2, (r1.mono e2).append r2, by simp [s1.len, s2.len], by simp [s1.dlen, s2.dlen], fun j it v d p q r => ?_⟩
  have s1' := s1.fr x2.none
  by_cases hj : j < x.length
  · rw [List.getElem?_append_left hj] at p
    rw [List.getElem?_append_left (by rw [s1.len]; exact hj)] at q
    rw [List.getElem?_append_left (by rw [s1.dlen]; exact hj)] at r
    exact s1'.rd j it v d p q r
  · rw [List.getElem?_append_right (by omega)] at p
    rw [List.getElem?_append_right (by rw [s1.len]; omega), s1.len] at q
    rw [List.getElem?_append_right (by rw [s1.dlen]; omega), s1.dlen] at r
    exact s2.rd _ it v d p q r
/-- element behind element -/
theorem lay_all {its : List It} : ∀ {css : List (List Value)}, (∀ cs ∈ css, Laying P w cs its) → ∀ (ρ : Rn) (σ : St), Lay P w ρ σ → ∃ (ρ' : Rn) (σ' : St) (vss : List (List Value)) (dss : List (List D)), Ext ρ ρ' ∧ Lay P w ρ' σ' ∧ Ext' σ σ' ∧ vss.length = css.length ∧ dss.length = css.length ∧
    (∀ (k : Nat) (vs cs : List Value), vss[k]? = some vs → css[k]? = some cs → VRs ρ' vs cs) ∧ ∀ (k : Nat) (vs : List Value) (ds : List D), vss[k]? = some vs → dss[k]? = some ds → RdA σ' (fun _ => False) its vs ds := by
  intro css
  induction css with
  | nil => intro _ ρ σ h; exact ⟨ρ, σ, [], [], .refl ρ, h, .refl σ, rfl, rfl, by simp, by simp⟩
  | cons cs css ih =>
    intro hall ρ σ h
    obtain ⟨ρ1, σ1, v1, d1, e1, l1, x1, r1, s1⟩ := hall cs (.head _) ρ σ h
    obtain ⟨ρ2, σ2, vss, dss, e2, l2, x2, n1, n2, r2, s2⟩ := ih (fun c hc => hall c (.tail _ hc)) ρ1 σ1 l1
    refine ⟨ρ2, σ2, v1 :: vss, d1 :: dss, e1.trans e2, l2, x1.trans x2, by simp [n1], by simp [n2], fun k vs cs' a b => ?_, fun k vs ds a b => ?_⟩
    · cases k with
      | zero => simp at a b; subst a b; exact r1.mono e2
      | succ k => exact r2 k vs cs' (by simpa using a) (by simpa using b)
    · cases k with
      | zero => simp at a b; subst a b; exact s1.fr x2.none
      | succ k => exact s2 k vs ds (by simpa using a) (by simpa using b)
theorem flatten_get {α : Type} {m : Nat} : ∀ {l : List (List α)}, (∀ x ∈ l, x.length = m) → ∀ (k j : Nat), j < m → l.flatten[k * m + j]? = (l[k]?).bind (·[j]?) := by
  intro l
  induction l with
  | nil => intro _ k j _; simp
  | cons x l ih =>
    intro h k j hj
    have hx := h x (.head _)
    cases k with
    | zero =>
      rw [List.flatten_cons, List.getElem?_append_left (by omega)]
      simp
    | succ k =>
      rw [List.flatten_cons, List.getElem?_append_right (by rw [hx, Nat.add_mul]; omega), hx]
      rw [show (k + 1) * m + j - m = k * m + j by rw [Nat.add_mul]; omega, ih (fun y hy => h y (.tail _ hy)) k j hj]
      simp
theorem flatten_len {α : Type} {m : Nat} : ∀ {l : List (List α)}, (∀ x ∈ l, x.length = m) → l.flatten.length = l.length * m := by
  intro l
  induction l with
  | nil => intro _; simp
  | cons x l ih => intro h; rw [List.flatten_cons, List.length_append, h x (.head _), ih fun y hy => h y (.tail _ hy), List.length_cons, Nat.add_mul]; omega
end
end Go.Am

namespace Go.Am
open Go.RowKit Go.MapKept
section
variable {P : Program} {w : World}
theorem cells_block {a : Addr} {n : Nat} {cs : List Value} (h : w.cells? 0 a n = some cs) (hn : 0 < n) : ∃ c t fz, w.heap[a.block]? = some (.cells c t fz) ∧ a.spot = none := by
  unfold World.cells? at h
  rw [if_pos (Nat.zero_le _)] at h
  obtain ⟨_, h2⟩ := mapM_some h
  obtain ⟨x, _, hx⟩ := h2 0 0 (by simp [hn])
  have hx : w.cell? a = some x := by simpa [Addr.add] using hx
  unfold World.cell? at hx
  cases hb : w.heap[a.block]? with
  | none => rw [hb] at hx; cases hx
  | some o =>
    rw [hb] at hx
    cases o with
    | cells c t fz =>
      simp only at hx
      cases hs : a.spot with
      | none => exact ⟨c, t, fz, rfl, rfl⟩
      | some s => rw [hs] at hx; simp at hx
    | _ => cases hx
theorem cells_get {b off n : Nat} {cs : List Value} {c : Array Value} {t : TypeId} {fz : Nat × Nat} (h : w.cells? 0 ⟨b, off, none⟩ n = some cs) (hb : w.heap[b]? = some (.cells c t fz)) : cs.length = n ∧ ∀ (j : Nat) (v : Value), cs[j]? = some v → c[off + j]? = some v := by
  unfold World.cells? at h
  rw [if_pos (Nat.zero_le _)] at h
  obtain ⟨h1, h2⟩ := mapM_some h
  have h1 : cs.length = n := by simpa using h1
  refine ⟨h1, fun j v hv => ?_⟩
  have hj : j < n := by rw [← h1]; exact (List.getElem?_eq_some_iff.1 hv).1
  obtain ⟨x, hx, hc⟩ := h2 j j (by simp [hj])
  rw [hv] at hx
  injection hx with hx
  subst hx
  rw [add_none] at hc
  unfold World.cell? at hc
  rw [hb] at hc
  simpa using hc
variable {H : Type} {enc : TypeId × Value → H}
theorem weights_all {e : TypeId} {x : Nat} : ∀ {l : List (DataW H)} {d : DataW H}, d ∈ l → x ∈ d.weights P e → x ∈ DataW.weightsAll P e l := by
  intro l
  induction l with
  | nil => intro d h; cases h
  | cons y l ih =>
    intro d h hx
    rw [DataW.weightsAll]
    rcases List.mem_cons.1 h with rfl | h
    · exact List.mem_append.2 (.inl hx)
    · exact List.mem_append.2 (.inr (ih h hx))
theorem itsF_spec {g : TypeId → Option (List It)} : ∀ {fs : List Field} {off : Nat} {its : List It}, itsF P g fs off = some its → ∀ (cs : List Value) (F : TypeId → List Value → Option (DataW H × List MemPlace)) (xs : List (DataW H × List MemPlace)),
    (fs.mapM fun f => F f.type ((cs.drop f.offset).take (P.cellsOf f.type))) = some xs → cs.length = off + its.length →
    (∀ (k : Nat) (f : Field) (x : DataW H × List MemPlace), fs[k]? = some f → xs[k]? = some x → ∀ (i : List It) (c : List Value), g f.type = some i → F f.type c = some x → Laying P w c i) → Laying P w (cs.drop off) its := by
  intro fs
  induction fs with
  | nil =>
    intro off its h cs F xs _ hl _
    unfold itsF at h
    injection h with h
    subst h
    rw [List.drop_of_length_le (by simp at hl; omega)]
    exact fun ρ σ hl => ⟨ρ, σ, [], [], .refl ρ, hl, .refl σ, .nil ρ, rfl, rfl, fun j it v d a => by simp at a⟩
  | cons f fs ih =>
    intro off its h cs F xs hx hl hall
    unfold itsF at h
    split at h
    · rename_i hoff
      split at h
      · rename_i i m hg hm
        split at h
        · rename_i hmi
          cases hr : itsF P g fs (off + m) with
          | none => rw [hr] at h; cases h
          | some rest =>
            rw [hr] at h
            have h : some (i ++ rest) = some its := h
            injection h with h
            subst h
            obtain ⟨x1, x2⟩ := mapM_some hx
            obtain ⟨x, hx0, hF⟩ := x2 0 f rfl
            have hcm : P.cellsOf f.type = m := by
              unfold Program.cellsOf
              unfold sizeT at hm
              rw [hm]; rfl
            rw [hcm, hoff] at hF
            have h1 : Laying P w ((cs.drop off).take m) i := hall 0 f x rfl hx0 i _ hg hF
            have hxs : ∃ ys, xs = x :: ys := by
              cases xs with
              | nil => simp at hx0
              | cons y ys => simp at hx0; subst hx0; exact ⟨ys, rfl⟩
            obtain ⟨ys, rfl⟩ := hxs
            have hys : (fs.mapM fun f => F f.type ((cs.drop f.offset).take (P.cellsOf f.type))) = some ys := by
              rw [List.mapM_cons] at hx
              cases ha : F f.type ((cs.drop f.offset).take (P.cellsOf f.type)) with
              | none => rw [ha] at hx; cases hx
              | some y =>
                rw [ha] at hx
                cases hb : (fs.mapM fun f => F f.type ((cs.drop f.offset).take (P.cellsOf f.type))) with
                | none => rw [hb] at hx; cases hx
                | some zs =>
                  rw [hb] at hx
                  have hx : some (y :: zs) = some (x :: ys) := hx
                  injection hx with hx
                  injection hx with _ hx
                  rw [hx]
            have h2 := ih hr cs F ys hys (by rw [hl, List.length_append]; omega) fun k f' x' a b => hall (k + 1) f' x' (by simpa using a) (by simpa using b)
            have := h1.append h2
            rwa [show (cs.drop off).take m ++ cs.drop (off + m) = cs.drop off by rw [← List.drop_drop]; exact List.take_append_drop _ _] at this
        · cases h
      · cases h
    · cases h
end
end Go.Am

namespace Go.Am
open Go.RowKit Go.MapKept
section
variable {P : Program} {w : World} {H : Type} {enc : TypeId × Value → H}
theorem wf_range {k : IntKind} {n : Int} (h : (Lit.int k n).wf = true) : k.min ≤ n ∧ n ≤ k.max := by
  unfold Lit.wf at h
  simpa using h
/-- a slice's elements -/
theorem lay_slice {a : Addr} {len cap m : Nat} {e : TypeId} {its : List It} {els : List (DataW H × List MemPlace)} {F : List Value → Option (DataW H × List MemPlace)} (hm : its.length = m) (hpos : 0 < m) (hsz : sizeT P e = some m) (_hcell : P.cellsOf e = m) (hlc : len ≤ cap)
    (hel : (List.range len).mapM (fun i => (w.cells? 0 (a.add (i * m)) m).bind F) = some els) (hN : len ≤ 140737488355328)
    (hsp : cap = 0 ∨ ∃ c t fz, w.heap[a.block]? = some (.cells c t fz) ∧ a.spot = none)
    (hz : ∀ i, i < len * m → w.frozen? ⟨a.block, a.off + i, none⟩ = false)
    (hall : ∀ x ∈ els, ∀ cs, F cs = some x → Laying P w cs its) :
    ∀ (ρ : Rn) (σ : St), Lay P w ρ σ → ∃ ρ' σ' v ds, Ext ρ ρ' ∧ Lay P w ρ' σ' ∧ Ext' σ σ' ∧ VR ρ' v (.slice (some a) len cap) ∧ Rd σ' (fun _ => False) (.list its) v (.l ds) := by
  intro ρ σ hl
  rcases Nat.eq_zero_or_pos cap with hc0 | hc0
  · have : len = 0 := by omega
    subst this hc0
    obtain ⟨b, o, sp⟩ := a
    refine ⟨ρ, σ, .slice (some ⟨b, o, some ((match sp with | none => 0 | some k => k + 1) + 2)⟩) 0 0, [], .refl ρ, hl, .refl σ, .sliceR ?_, .emptyR⟩
    cases sp <;> rfl
  · rcases hsp with hsp | ⟨c, t, fz, hb, hspot⟩
    · omega
    · obtain ⟨b, o, sp⟩ := a
      have hspot : sp = none := hspot
      subst hspot
      obtain ⟨h1, h2⟩ := mapM_some hel
      have h1 : els.length = len := by simpa using h1
      -- the elements' cells
      let css : List (List Value) := (List.range len).map fun i => (w.cells? 0 ((⟨b, o, none⟩ : Addr).add (i * m)) m).getD []
      have hcss : ∀ i, i < len → ∃ cs x, css[i]? = some cs ∧ w.cells? 0 ⟨b, o + i * m, none⟩ m = some cs ∧ els[i]? = some x ∧ F cs = some x := by
        intro i hi
        obtain ⟨x, hx, hF⟩ := h2 i i (by simp [hi])
        rw [add_none] at hF
        cases hcs : w.cells? 0 ⟨b, o + i * m, none⟩ m with
        | none => rw [hcs] at hF; cases hF
        | some cs =>
          rw [hcs] at hF
          refine ⟨cs, x, ?_, rfl, hx, hF⟩
          show ((List.range len).map fun i => (w.cells? 0 ((⟨b, o, none⟩ : Addr).add (i * m)) m).getD [])[i]? = some cs
          rw [List.getElem?_map, List.getElem?_range hi]
          show some ((w.cells? 0 ((⟨b, o, none⟩ : Addr).add (i * m)) m).getD []) = some cs
          rw [add_none, hcs]; rfl
      have hcl : css.length = len := by show ((List.range len).map _).length = len; simp
      have hlay : ∀ cs ∈ css, Laying P w cs its := by
        intro cs hcs
        obtain ⟨i, hi⟩ := List.getElem?_of_mem hcs
        have hil : i < len := by rw [← hcl]; exact (List.getElem?_eq_some_iff.1 hi).1
        obtain ⟨cs', x, g1, _, g3, g4⟩ := hcss i hil
        rw [hi] at g1
        injection g1 with g1
        subst g1
        exact hall x (List.mem_of_getElem? g3) cs g4
      obtain ⟨ρ1, σ1, vss, dss, e1, l1, x1, n1, n2, r1, s1⟩ := lay_all hlay ρ σ hl
      have hvl : ∀ vs ∈ vss, vs.length = m := by
        intro vs hvs
        obtain ⟨i, hi⟩ := List.getElem?_of_mem hvs
        have hil : i < dss.length := by rw [n2, ← n1]; exact (List.getElem?_eq_some_iff.1 hi).1
        rw [(s1 i vs _ hi (List.getElem?_eq_getElem hil)).len, hm]
      have hfl := flatten_len hvl
      have hA : ∀ (j : Nat) (v : Value), vss.flatten[j]? = some v → ∃ v', c[o + j]? = some v' ∧ VR ρ1 v v' := by
        intro j v hj
        have hjl : j < len * m := by
          have := (List.getElem?_eq_some_iff.1 hj).1
          rw [hfl, n1, hcl] at this; exact this
        have hk : j / m < len := Nat.div_lt_of_lt_mul (by rw [Nat.mul_comm]; exact hjl)
        have hjm : j % m < m := Nat.mod_lt _ hpos
        have ej : j = (j / m) * m + j % m := by rw [Nat.mul_comm]; exact (Nat.div_add_mod j m).symm
        rw [ej, flatten_get hvl _ _ hjm] at hj
        obtain ⟨cs, x, g1, g2, g3, g4⟩ := hcss (j / m) hk
        cases hvk : vss[j / m]? with
        | none => rw [hvk] at hj; cases hj
        | some vs =>
          rw [hvk] at hj
          have hvr := r1 _ vs cs hvk g1
          obtain ⟨v', hv', hr'⟩ := hvr.get hj
          obtain ⟨_, q2⟩ := cells_get g2 hb
          have := q2 _ _ hv'
          exact ⟨v', by rw [Nat.add_assoc, ← ej] at this; exact this, hr'⟩
      have hB : ∀ j, j < vss.flatten.length → ¬ (fz.1 ≤ o + j ∧ o + j < fz.2) := by
        intro j hj
        have hjl : j < len * m := by rw [hfl, n1, hcl] at hj; exact hj
        have := hz j hjl
        unfold World.frozen? at this
        rw [hb] at this
        intro ⟨q1, q2⟩
        simp at this
        have := this q1
        omega
      obtain ⟨l2, e2⟩ := l1.add vss.flatten e ⟨b, o, 0, m⟩ hb hA hsz hB
      have x2 := Ext'.new σ1 (.cells vss.flatten e .rs)
      refine ⟨_, _, .slice (some ⟨σ1.n, 0, none⟩) len cap, dss, e1.trans e2, l2, x1.trans x2, ?_, ?_⟩
      · have := VR.slice (ρ := ρ1.put σ1.n ⟨b, o, 0, m⟩) (o := 0) (n := len) (c := cap) (Rn.put_same ρ1 σ1.n ⟨b, o, 0, m⟩)
        exact this
      · refine .row (e := e) (ck := .rs) rfl (Nat.lt_succ_self _) (fun h => h) obj_new_same (.inl rfl) (by rw [n2, hcl]) (by rw [hfl, n1, hcl, hm]; omega) (fun ds hds => ?_) hN (fun k ds j it v d a1 a2 a3 a4 => ?_)
        · obtain ⟨i, hi⟩ := List.getElem?_of_mem hds
          have hil : i < vss.length := by rw [n1, ← n2]; exact (List.getElem?_eq_some_iff.1 hi).1
          exact (s1 i _ ds (List.getElem?_eq_getElem hil) hi).dlen
        · have hjm : j < m := by rw [← hm]; exact (List.getElem?_eq_some_iff.1 a2).1
          rw [hm, Nat.zero_add, flatten_get hvl k j hjm] at a3
          cases hk : vss[k]? with
          | none => rw [hk] at a3; cases a3
          | some vs =>
            rw [hk] at a3
            exact ((s1 k vs ds hk a1).fr x2.none).rd j it v d a2 a3 a4
theorem weights_each {y : Nat} : ∀ {fs : List Field} {xs : List (DataW H × List MemPlace)} {j : Nat} {f : Field} {x : DataW H × List MemPlace}, fs[j]? = some f → xs[j]? = some x → y ∈ x.1.weights P f.type → y ∈ DataW.weightsEach P (fs.map (·.type)) (xs.map (·.1)) := by
  intro fs
  induction fs with
  | nil => intro xs j f x h; simp at h
  | cons g fs ih =>
    intro xs j f x h1 h2 h3
    cases xs with
    | nil => simp at h2
    | cons z xs =>
      rw [List.map_cons, List.map_cons, DataW.weightsEach]
      cases j with
      | zero => simp at h1 h2; subst h1 h2; exact List.mem_append.2 (.inl h3)
      | succ j => exact List.mem_append.2 (.inr (ih (by simpa using h1) (by simpa using h2) h3))
theorem lay (sp : Nat → Bool) (hsp : ∀ b, sp b = true) : ∀ (F k : Nat) (t : TypeId) (cs : List Value) (d : DataW H) (ps : List MemPlace), DataW.trod enc P w 0 sp true F t cs = some (d, ps) → (∀ b off, MemPlace.cell b off ∈ ps → w.frozen? ⟨b, off, none⟩ = false) →
    (∀ x ∈ d.weights P t, x ≤ reachBytes) → ∀ its, itsT P k t = some its → Laying P w cs its := by
  intro F
  induction F with
  | zero => intro k t cs d ps h; cases h
  | succ F ih =>
    intro k t cs d ps h hz hw its hi
    cases k with
    | zero => cases hi
    | succ k =>
      unfold itsT at hi
      unfold DataW.trod at h
      cases hu : P.underlying t with
      | none => rw [hu] at hi; cases hi
      | some td =>
        rw [hu] at hi h
        cases td with
        | bool =>
          injection hi with hi; subst hi
          match cs, h with
          | [.bool b], _ => exact Laying.plain rfl fun σ => .is
        | int kd =>
          match cs, h with
          | [.int k' n], h =>
            simp only at h
            split at h
            · rename_i hk
              obtain ⟨rfl, hwf⟩ := hk
              obtain ⟨r1, r2⟩ := wf_range hwf
              cases k' with
              | u64 =>
                injection hi with hi; subst hi
                have r1 : (0 : Int) ≤ n := r1
                have r2 : n ≤ 18446744073709551615 := r2
                obtain ⟨m, rfl⟩ := Int.eq_ofNat_of_zero_le r1
                exact Laying.plain rfl fun σ => .num (z := m) (by omega)
              | u8 =>
                injection hi with hi; subst hi
                have r1 : (0 : Int) ≤ n := r1
                have r2 : n ≤ 255 := r2
                obtain ⟨m, rfl⟩ := Int.eq_ofNat_of_zero_le r1
                exact Laying.plain rfl fun σ => .kind (z := m) (by omega)
              | i64 =>
                injection hi with hi; subst hi
                have r1 : (-9223372036854775808 : Int) ≤ n := r1
                have r2 : n ≤ 9223372036854775807 := r2
                exact Laying.plain rfl fun σ => .int r1 (by omega)
              | _ => cases hi
            · cases h
        | string =>
          injection hi with hi; subst hi
          match cs, h with
          | [.string s], h =>
            simp only at h
            split at h
            · injection h with h
              injection h with h _
              subst h
              obtain ⟨⟨l⟩⟩ := s
              have := hw l.length (by simp [DataW.weights])
              exact Laying.plain rfl fun σ => .text (l := l) (by unfold reachBytes at this; omega)
            · cases h
        | slice e =>
          simp only at hi
          split at hi
          · rename_i i0 its0 m by0 hit hsz hby
            split at hi
            · rename_i hm
              have hcell : P.cellsOf e = m := by unfold Program.cellsOf; unfold sizeT at hsz; rw [hsz]; rfl
              have hfin : (∀ (ρ : Rn) (σ : St), Lay P w ρ σ → ∃ ρ' σ' v ds, Ext ρ ρ' ∧ Lay P w ρ' σ' ∧ Ext' σ σ' ∧ VRs ρ' [v] cs ∧ Rd σ' (fun _ => False) (.list (i0 :: its0)) v (.l ds)) → Laying P w cs its := by
                intro hgo ρ σ hl
                obtain ⟨ρ', σ', v, ds, g1, g2, g3, g4, g5⟩ := hgo ρ σ hl
                refine ⟨ρ', σ', [v], [.l ds], g1, g2, g3, g4, ?_⟩
                split at hi
                · injection hi with hi; subst hi
                  exact ⟨rfl, rfl, fun j it v' d' a b c => by
                    cases j with
                    | zero => simp at a b c; subst a b c; exact .nums g5
                    | succ j => simp at a⟩
                · injection hi with hi; subst hi
                  exact ⟨rfl, rfl, fun j it v' d' a b c => by
                    cases j with
                    | zero => simp at a b c; subst a b c; exact g5
                    | succ j => simp at a⟩
              match cs, h, hfin with
              | [.slice none 0 0], _, hfin => exact hfin fun ρ σ hl => ⟨ρ, σ, _, [], .refl ρ, hl, .refl σ, .cons (.flat rfl) (.nil ρ), .empty⟩
              | [.slice (some a) len cap], h, hfin =>
                simp only at h
                split at h
                · rename_i hcond
                  rw [hcell] at h
                  cases hels : (List.range len).mapM (fun i => (w.cells? 0 (a.add (i * m)) m).bind (DataW.trod enc P w 0 sp true F e)) with
                  | none => rw [hels] at h; cases h
                  | some els =>
                    rw [hels] at h
                    simp only [Option.bind_some, hsp, if_true] at h
                    cases hrest : (List.range (cap - len)).mapM (fun j => (w.cells? 0 (a.add ((len + j) * m)) m).bind (DataW.trod enc P w 0 sp true F e)) with
                    | none => rw [hrest] at h; cases h
                    | some rest =>
                      rw [hrest] at h
                      injection h with h
                      injection h with hd hps
                      subst hd hps
                      obtain ⟨n1, n2⟩ := mapM_some hels
                      obtain ⟨n3, n4⟩ := mapM_some hrest
                      have n1 : els.length = len := by simpa using n1
                      have n3 : rest.length = cap - len := by simpa using n3
                      have hwt : (els.length + rest.length) * P.bytesOf e ≤ reachBytes := hw _ (by rw [DataW.weights, hu]; simp)
                      rw [hby, n1] at hwt
                      have hlen47 : len ≤ 140737488355328 := by
                        unfold reachBytes at hwt
                        have : len ≤ (len + rest.length) * by0.succ := Nat.le_trans (Nat.le_add_right _ _) (Nat.le_mul_of_pos_right _ (Nat.succ_pos _))
                        omega
                      refine hfin fun ρ σ hl => ?_
                      obtain ⟨ρ', σ', v, ds, g1, g2, g3, g4, g5⟩ := lay_slice (F := DataW.trod enc P w 0 sp true F e) (its := i0 :: its0) (e := e) (by rw [hm]; rfl) (by omega) hsz hcell hcond.2.1 hels hlen47 (by
                        rcases Nat.eq_zero_or_pos cap with h0 | h0
                        · exact .inl h0
                        · right
                          rcases Nat.eq_zero_or_pos len with h1 | h1
                          · obtain ⟨x, _, hx⟩ := n4 0 0 (List.getElem?_range (by omega))
                            cases hcs : w.cells? 0 (a.add ((len + 0) * m)) m with
                            | none => rw [hcs] at hx; cases hx
                            | some c0 =>
                              rw [h1] at hcs
                              simp only [Nat.add_zero, Nat.zero_mul] at hcs
                              exact cells_block (by simpa [Addr.add] using hcs) (by omega)
                          · obtain ⟨x, _, hx⟩ := n2 0 0 (List.getElem?_range (by omega))
                            cases hcs : w.cells? 0 (a.add (0 * m)) m with
                            | none => rw [hcs] at hx; cases hx
                            | some c0 =>
                              simp only [Nat.zero_mul] at hcs
                              exact cells_block (by simpa [Addr.add] using hcs) (by omega)) (fun i hi => by
                        refine hz a.block (a.off + i) (List.mem_append.2 (.inl ?_))
                        unfold MemPlace.row
                        refine List.mem_map.2 ⟨i, List.mem_range.2 ?_, rfl⟩
                        rw [n1]
                        have : len * m ≤ (len + rest.length) * m := Nat.mul_le_mul_right _ (Nat.le_add_right _ _)
                        omega) (fun x hx cs' hF => by
                        obtain ⟨dx, px⟩ := x
                        refine ih k e cs' dx px hF (fun b off hb => hz b off (List.mem_append.2 (.inr (List.mem_flatMap.2 ⟨(dx, px), List.mem_append.2 (.inl hx), hb⟩)))) (fun y hy => hw y ?_) _ hit
                        rw [DataW.weights, hu]
                        exact List.mem_cons_of_mem _ (List.mem_append.2 (.inl (weights_all (List.mem_map.2 ⟨(dx, px), hx, rfl⟩) hy)))) ρ σ hl
                      exact ⟨ρ', σ', v, ds, g1, g2, g3, .cons g4 (.nil ρ'), g5⟩
                · cases h
            · cases hi
          · cases hi
        | struct fs =>
          simp only at hi h
          have hi : ∃ m, itsF P (itsT P k) fs.toList 0 = some its ∧ sizeT P t = some m ∧ m = its.length := by
            split at hi
            · rename_i its' m' h1 h2
              split at hi
              · rename_i h3
                injection hi with hi
                subst hi
                exact ⟨m', h1, h2, h3⟩
              · cases hi
            · cases hi
          obtain ⟨mm, hi, hsz, hmm⟩ := hi
          have hct : P.cellsOf t = mm := by unfold Program.cellsOf; unfold sizeT at hsz; rw [hsz]; rfl
          split at h
          · rename_i hlen
            cases hxs : (fs.toList.mapM fun f => DataW.trod enc P w 0 sp true F f.type ((cs.drop f.offset).take (P.cellsOf f.type))) with
            | none => rw [hxs] at h; cases h
            | some xs =>
              rw [hxs] at h
              injection h with h
              injection h with hd hps
              subst hd hps
              have := itsF_spec (w := w) hi cs (fun t c => DataW.trod enc P w 0 sp true F t c) xs hxs (by omega) (fun j f x hf hx i c hg hF => by
                obtain ⟨dx, px⟩ := x
                refine ih k f.type c dx px hF (fun b off hb => hz b off (List.mem_flatMap.2 ⟨(dx, px), List.mem_of_getElem? hx, hb⟩)) (fun y hy => hw y ?_) i hg
                rw [DataW.weights, hu]
                exact weights_each hf hx hy)
              rwa [List.drop_zero] at this
          · cases h
        | _ => cases hi
end
end Go.Am
