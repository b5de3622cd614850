/- VM: data by value: values, memory, operations (what is to be shown of a run is a proposition). -/
import Derived.Test.YtbdlooaoeegbgaaGreatDoorGc

namespace Go.Am
open Go.RowKit Go.MapKept
inductive Tag where
 | root (n : Nat)
 | sub (t : Tag) (k : Nat)
 | shift (t : Tag) (k : Nat)
inductive Dt where
 | int (k : IntKind) (z : Int)
 | bool (b : Bool)
 | str (l : List UInt8)
 /-- the cells of all elements, and how many elements there are -/
 | list (cs : List Dt) (n : Nat)
inductive V where
 | int (k : IntKind) (z : Int)
 | bool (b : Bool)
 | str (l : List UInt8)
 /-- a list by value -/
 | list (τ : Tag) (cs : List Dt) (n : Nat)
 /-- to a cell of such a list -/
 | lptr (τ : Tag) (cs : List Dt) (o : Nat)
 | nil
 /-- a list that is being made, when it had n elements; to a cell of it -/
 | acc (i n : Nat)
 | gptr (i n o : Nat)
 /-- a part of it: from which cell on, how many elements, how much room -/
 | asl (i n o k c : Nat)
 /-- no elements, at its end -/
 | emp (i n : Nat)
 /-- of a row -/
 | own (i o n c : Nat)
 | ptr (i o : Nat)
 | nilp
 | func (f : FuncId) (a c : List V)
 /-- one round of a loop over a function -/
 | yield (l : Nat)
 | meth (s : String) (v : V)
 | iface (t : TypeId) (v : V)
 | nilI
 | nilF
 /-- a map -/
 | mapv (i : Nat)
 | nilM
 | agg (cs : List V)
 | tuple (cs : List V)
def T (τ : Tag) : Dt → V
 | .int k z => .int k z
 | .bool b => .bool b
 | .str l => .str l
 | .list cs n => .list τ cs n
def Tl (τ : Tag) : Nat → List Dt → List V
 | _, [] => []
 | o, d :: l => T (.sub τ o) d :: Tl τ (o + 1) l
inductive Ob where
 | row (vs : List V) (t : TypeId)
 | gro (vs : List V) (t : TypeId) (n : Nat)
 /-- keys, values -/
 | map (es : List (V × V))
 /-- a loop over a function: which temporaries live where it begins, and their values -/
 | loop (ls : List Nat) (vs : List V) (n : Nat) (ps : List Tmp) (as bo : Code) (st : LoopState) (pe : Option Code)
def isGro : Ob → Bool
 | .gro _ _ _ => true
 | _ => false
abbrev Hp := Nat → Option Ob
def upd (σ : Hp) (i : Nat) (o : Ob) : Hp := fun j => if j = i then some o else σ j
def Hle (σ' σ : Hp) : Prop := ∀ i o, σ' i = some o → σ i = some o
abbrev KV := V → Hp → Prop
def oneV : V → Bool
 | .agg _ => false
 | .tuple _ => false
 | _ => true
def ofV : Value → Option V
 | .int k z => some (.int k z)
 | .bool b => some (.bool b)
 | .string ⟨⟨l⟩⟩ => some (.str l)
 | .pointer none => some .nilp
 | .slice none 0 0 => some .nil
 | .nilIface => some .nilI
 | .nilFunc => some .nilF
 | .map none => some .nilM
 | _ => none
def ofVs : List Value → Option (List V)
 | [] => some []
 | v :: l => match ofV v with
  | some x => match ofVs l with | some xs => some (x :: xs) | none => none
  | none => none
def undV : V := .tuple []
noncomputable def vNth {α : Type} (l : List α) (i : Nat) (k : α → Prop) : Prop := match l[i]? with | some a => k a | none => False
noncomputable def vPart {α : Type} (l : List α) (o n : Nat) (k : List α → Prop) : Prop := o + n ≤ l.length ∧ k ((l.drop o).take n)
def vIf (c : V) (a b : Prop) : Prop := match c with
 | .bool v => match v with | true => a | false => b
 | _ => False
def vPick (c a b : V) (K : V → Prop) : Prop := match c with
 | .bool v => match v with | true => K a | false => K b
 | _ => False
noncomputable def vLd (a : V) (σ : Hp) (K : KV) : Prop := match a with
 | .ptr i o => match σ i with
  | some (.row vs _) => vNth vs o fun v => K v σ
  | _ => False
 | .lptr τ cs o => vNth cs o fun d => K (T (.sub τ o) d) σ
 | .gptr i n o => match σ i with
  | some (.gro vs _ m) => m = n ∧ vNth vs o fun v => K v σ
  | _ => False
 | _ => False
noncomputable def vLdN (n : Nat) (a : V) (σ : Hp) (K : KV) : Prop := match a with
 | .ptr i o => match σ i with
  | some (.row vs _) => vPart vs o n fun l => K (.agg l) σ
  | _ => False
 | .lptr τ cs o => vPart cs o n fun l => K (.agg (Tl τ o l)) σ
 | .gptr i m o => match σ i with
  | some (.gro vs _ m') => m' = m ∧ vPart vs o n fun l => K (.agg l) σ
  | _ => False
 | _ => False
def vCells (v : V) (k : List V → Prop) : Prop := match v with
 | .agg cs => cs.all oneV = true ∧ k cs
 | .tuple _ => False
 | v => k [v]
noncomputable def vSt (n : Nat) (a x : V) (σ : Hp) (k : Hp → Prop) : Prop := match a with
 | .ptr i o => match σ i with
  | some (.row vs t) => vCells x fun cs => cs.length = n ∧ o + n ≤ vs.length ∧ k (upd σ i (.row (splice o cs vs) t))
  | _ => False
 | .gptr i q o => match σ i with
  | some (.gro vs t m) => m = q ∧ vCells x fun cs => cs.length = n ∧ o + n ≤ vs.length ∧ k (upd σ i (.gro (splice o cs vs) t m))
  | _ => False
 | _ => False
def vNew (vs : List V) (t : TypeId) (σ : Hp) (K : Nat → Hp → Prop) : Prop := ∀ i, σ i = none → K i (upd σ i (.row vs t))
def vZero (z : List Value) (k : List V → Prop) : Prop := match ofVs z with | some l => k l | none => False
def vAlloc (z : List Value) (t : TypeId) (σ : Hp) (K : KV) : Prop := vZero z fun l => vNew l t σ fun i σ => K (.ptr i 0) σ
def vBox (t : TypeId) (v : V) (σ : Hp) (K : KV) : Prop := vCells v fun cs => vNew cs t σ fun i σ => K (.ptr i 0) σ
noncomputable def vFill : List (Nat × Nat × V) → List V → (List V → Prop) → Prop
 | [], cs, k => k cs
 | (o, n, v) :: ps, cs, k => vCells v fun new => new.length = n ∧ o + n ≤ cs.length ∧ vFill ps (splice o new cs) k
noncomputable def vBuild (zero : List Value) (ps : List (Nat × Nat × V)) (K : V → Prop) : Prop := vZero zero fun z => vFill ps z fun cs => K (.agg cs)
noncomputable def vBuildS (el : TypeId) (n : Nat) (zero : List Value) (ps : List (Nat × Nat × V)) (σ : Hp) (K : KV) : Prop :=
 vZero zero fun z => vFill ps (List.replicate n z).flatten fun cs => vNew cs el σ fun i σ => K (.own i 0 n n) σ
def vFld (off : Nat) (x : V) (K : V → Prop) : Prop := match x with
 | .ptr i o => K (.ptr i (o + off))
 | .lptr τ cs o => K (.lptr τ cs (o + off))
 | .gptr i n o => K (.gptr i n (o + off))
 | _ => False
noncomputable def vField (off : Nat) (x : V) (K : V → Prop) : Prop := match x with
 | .agg cs => vNth cs off K
 | _ => False
noncomputable def vFieldN (off n : Nat) (x : V) (K : V → Prop) : Prop := match x with
 | .agg cs => vPart cs off n fun l => K (.agg l)
 | _ => False
def vIdx (size : Nat) (x ix : V) (K : V → Prop) : Prop := match ix with
 | .int _ (.ofNat i) => match x with
  | .list τ cs n => i < n ∧ K (.lptr τ cs (i * size))
  | .own b o n _ => i < n ∧ K (.ptr b (o + i * size))
  | .acc b n => i < n ∧ K (.gptr b n (i * size))
  | .asl b n o m _ => i < m ∧ K (.gptr b n (o + i * size))
  | _ => False
 | _ => False
noncomputable def vStrAt (x ix : V) (K : V → Prop) : Prop := match ix with
 | .int _ (.ofNat i) => match x with
  | .str l => vNth l i fun b => K (.int .u8 (.ofNat b.toNat))
  | _ => False
 | _ => False
noncomputable def vExt (i : Nat) (x : V) (K : V → Prop) : Prop := match x with
 | .tuple vs => vNth vs i K
 | _ => False
def vInt (k : IntKind) (x : V) (K : V → Prop) : Prop := match x with
 | .int _ n => K (.int k (wrapI k n))
 | _ => False
def vLenS (x : V) (K : V → Prop) : Prop := match x with
 | .list _ _ n => K (.int .i64 (.ofNat n))
 | .nil => K (.int .i64 (.ofNat 0))
 | .acc _ n => K (.int .i64 (.ofNat n))
 | .own _ _ n _ => K (.int .i64 (.ofNat n))
 | .asl _ _ _ k _ => K (.int .i64 (.ofNat k))
 | .emp _ _ => K (.int .i64 (.ofNat 0))
 | _ => False
def vLenT (x : V) (K : V → Prop) : Prop := match x with
 | .str l => K (.int .i64 (.ofNat l.length))
 | _ => False
noncomputable def vSrc (size : Nat) (x : V) (σ : Hp) (k : Nat → List V → Prop) : Prop := match x with
 | .nil => k 0 []
 | .list τ cs n => n * size ≤ cs.length ∧ k n (Tl τ 0 (cs.take (n * size)))
 | .own i o n _ => match σ i with
  | some (.row vs _) => vPart vs o (n * size) fun l => k n l
  | _ => False
 | .acc i n => match σ i with
  | some (.gro vs _ m) => m = n ∧ vs.length = n * size ∧ k n vs
  | _ => False
 | .asl i n o q _ => match σ i with
  | some (.gro vs _ m) => m = n ∧ vPart vs o (q * size) fun l => k q l
  | _ => False
 | .emp _ _ => k 0 []
 | .str l => size = 1 ∧ k l.length (l.map fun b => .int .u8 (.ofNat b.toNat))
 | _ => False
def vGrow (el : TypeId) (vs : List V) (n : Nat) (σ : Hp) (K : KV) : Prop := ∀ i, σ i = none → K (.acc i n) (upd σ i (.gro vs el n))
noncomputable def vApp (el : TypeId) (size bytes : Nat) (s x : V) (σ : Hp) (K : KV) : Prop := vSrc size x σ fun m new => match m with
 | 0 => (match s with | .nil => K s σ | .acc _ _ => K s σ | .own _ _ n c => n ≤ c ∧ K s σ | .list _ _ _ => K s σ | _ => False)
 | m + 1 => new.all oneV = true ∧ match s with
  | .nil => (m + 1) * (bytes + 1) ≤ 1099511627776 ∧ vGrow el new (m + 1) σ K
  | .acc i n => match σ i with
   | some (.gro vs t n') => n' = n ∧ t = el ∧ vs.length = n * size ∧ (n + (m + 1)) * (bytes + 1) ≤ 1099511627776 ∧ K (.acc i (n + (m + 1))) (upd σ i (.gro (vs ++ new) el (n + (m + 1))))
   | _ => False
  | .own i o n c => match σ i with
   | some (.row vs t) => (n + (m + 1)) * (bytes + 1) ≤ 1099511627776 ∧ o + n * size ≤ vs.length ∧
    (n + (m + 1) ≤ c → o + n * size + new.length ≤ vs.length ∧ K (.own i o (n + (m + 1)) c) (upd σ i (.row (splice (o + n * size) new vs) t))) ∧
    (c < n + (m + 1) → vGrow el ((vs.drop o).take (n * size) ++ new) (n + (m + 1)) σ K)
   | _ => False
  | _ => False
def vNil (P : Program) (v : V) (K : V → Prop) : Prop := match v with
 | .ptr i o => K (.ptr i o)
 | .lptr τ cs o => K (.lptr τ cs o)
 | .gptr i n o => K (.gptr i n o)
 | .func f a c => K (.func f a c)
 | .iface t w => K (.iface t w)
 | .meth s v => match v with
  | .iface t w => match methT P t s with
   | some _ => K (.meth s (.iface t w))
   | none => False
  | _ => False
 | _ => False
abbrev CallV := FuncId → List V → Hp → KV → Prop
def vInv (P : Program) (call : CallV) (r : V) (m : String) (args : List V) (σ : Hp) (K : KV) : Prop := match r with
 | .iface t v => match methT P t m with
  | some g => call g (v :: args) σ K
  | none => False
 | _ => False
/-! loops over functions -/
def vBusy (l : Nat) (σ : Hp) (k : Hp → Prop) : Prop := match σ l with
 | some (.loop ls vs n ps as bo .ready pe) => k (upd σ l (.loop ls vs n ps as bo .busy pe))
 | _ => False
def vOver (l : Nat) (st : LoopState) (pe : Option Code) (b : Bool) (σ : Hp) (K : KV) : Prop := match σ l with
 | some (.loop ls vs n ps as bo _ _) => K (.bool b) (upd σ l (.loop ls vs n ps as bo st pe))
 | _ => False
def vLeft (l : Nat) (σ : Hp) (k : Option Code → Hp → Prop) : Prop := match σ l with
 | some (.loop ls vs n ps as bo st pe) => match st with
  | .busy => False
  | _ => k pe (upd σ l (.loop ls vs n ps as bo .exhausted pe))
 | _ => False
def vPend (pe : Option Code) (kn kr : Prop) (ke : Nat → Prop) : Prop := match pe with
 | none => kn
 | some .ret => kr
 | some (.exit id) => ke id
 | _ => False
def vInLoop (l : Nat) (σ : Hp) (p : Prop) : Prop := match σ l with
 | some (.loop _ _ _ _ _ _ _ _) => p
 | _ => False
abbrev vExit (i id : Nat) (a b : Prop) : Prop := Bool.rec (motive := fun _ => Prop) b a (Nat.beq i id)
def sameOk0 : V → Bool
 | .int _ _ | .bool _ | .str _ | .list _ _ _ | .nil | .ptr _ _ | .nilp | .lptr _ _ _ | .gptr _ _ _ | .acc _ _ | .asl _ _ _ _ _ | .own _ _ _ _ | .mapv _ | .nilM | .nilI | .nilF => true
 | _ => false
def sameOk1 : V → Bool
 | .func _ a c => a.all sameOk0 && c.all sameOk0
 | v => sameOk0 v
def sameOk2 : V → Bool
 | .agg cs => cs.all sameOk1
 | v => sameOk1 v
def sameOk : V → Bool
 | .tuple cs => cs.all sameOk2
 | v => sameOk2 v
def vSame (v u : V) (k : Prop) : Prop := v = u ∧ sameOk v = true ∧ k
def vWant (w : Bool) (v : V) (k : Bool → Prop) : Prop := match v with
 | .bool b => match b, w with | true, true => k true | false, false => k true | _, _ => k false
 | .tuple [] => k false
 | _ => False
def vGuard (w : Bool) (v : V) (op : KV → Prop) (σ : Hp) (k : KV) : Prop := vWant w v fun b => match b with | true => op k | false => k undV σ
def vUnd (u : V) (k : Prop) : Prop := match u with | .tuple [] => k | _ => False
def vGuardC (w : Bool) (v u : V) (op : Prop → Prop) (k : Prop) : Prop := vWant w v fun b => match b with | true => op k | false => vUnd u k
noncomputable def shutP (most : Nat) (p : Prop) : Prop := Nat.rec (motive := fun _ => Prop → Prop) (fun x => x) (fun _ _ x => x) most p
theorem shutP_eq (most : Nat) (p : Prop) : shutP most p = p := by cases most <;> rfl
/-! numbers, texts, truth -/
def vBinI (op : BinOp) (k : IntKind) (x y : Int) (K : V → Prop) : Prop := match op with
 | .add => K (.int k (wrapI k (x + y)))
 | .sub => K (.int k (wrapI k (x - y)))
 | .mul => K (.int k (wrapI k (x * y)))
 | .quo => y ≠ 0 ∧ K (.int k (wrapI k (x.tdiv y)))
 | .rem => y ≠ 0 ∧ K (.int k (x.tmod y))
 | .and => K (.int k (k.wrap (BitVec.ofInt k.bits x &&& BitVec.ofInt k.bits y).toNat))
 | .or => K (.int k (k.wrap (BitVec.ofInt k.bits x ||| BitVec.ofInt k.bits y).toNat))
 | .xor => K (.int k (k.wrap (BitVec.ofInt k.bits x ^^^ BitVec.ofInt k.bits y).toNat))
 | .andNot => K (.int k (k.wrap (BitVec.ofInt k.bits x &&& ~~~ BitVec.ofInt k.bits y).toNat))
 | .eql => K (.bool (decide (x = y)))
 | .neq => K (.bool (!decide (x = y)))
 | .lss => K (.bool (decide (x < y)))
 | .leq => K (.bool (decide (x ≤ y)))
 | .gtr => K (.bool (decide (y < x)))
 | .geq => K (.bool (decide (y ≤ x)))
 | _ => False
def vShift (op : BinOp) (k : IntKind) (x y : Int) (K : V → Prop) : Prop := 0 ≤ y ∧ match op with
 | .shl => K (.int k (wrapI k (x * 2 ^ (min y.toNat k.bits))))
 | .shr => K (.int k (x.fdiv (2 ^ (min y.toNat k.bits))))
 | _ => False
def vBinS (op : BinOp) (a b : List UInt8) (K : V → Prop) : Prop := match op with
 | .add => a.length + b.length < 9223372036854775808 ∧ K (.str (a ++ b))
 | .eql => K (.bool (decide (a = b)))
 | .neq => K (.bool (!decide (a = b)))
 | .lss => K (.bool (Op.bytesLess a b))
 | _ => False
def vBinB (op : BinOp) (a b : Bool) (K : V → Prop) : Prop := match op with
 | .eql => K (.bool (decide (a = b)))
 | .neq => K (.bool (!decide (a = b)))
 | _ => False
def isShift : BinOp → Bool
 | .shl | .shr => true
 | _ => false
def isBoolT (P : Program) (t : TypeId) : Bool := match P.underlying t with | some .bool => true | _ => false
inductive NK where
 | ptr
 | slice
 | map
 | func
 | iface
def nilKind : V → Option (NK × Bool)
 | .ptr _ _ => some (.ptr, false)
 | .lptr _ _ _ => some (.ptr, false)
 | .gptr _ _ _ => some (.ptr, false)
 | .nilp => some (.ptr, true)
 | .own _ _ _ _ => some (.slice, false)
 | .acc _ _ => some (.slice, false)
 | .asl _ _ _ _ _ => some (.slice, false)
 | .list _ (_ :: _) _ => some (.slice, false)
 | .nil => some (.slice, true)
 | .mapv _ => some (.map, false)
 | .nilM => some (.map, true)
 | .func _ _ _ => some (.func, false)
 | .meth _ _ => some (.func, false)
 | .nilF => some (.func, true)
 | .iface _ _ => some (.iface, false)
 | .nilI => some (.iface, true)
 | _ => none
def kindT (P : Program) (t : TypeId) : Option NK := match P.underlying t with
 | some (.pointer _) => some .ptr
 | some (.slice _) => some .slice
 | some (.map _ _) => some .map
 | some (.func _ _ _) => some .func
 | some (.interface _) => some .iface
 | _ => none
def vNilEq (P : Program) (op : BinOp) (t : TypeId) (a b : V) (K : V → Prop) : Prop := match nilKind a with
 | some (k, x) => match nilKind b with
  | some (l, y) => k = l ∧ kindT P t = some k ∧ (x = true ∨ y = true) ∧ (x = true → y = true → k ≠ .iface) ∧ match op with
   | .eql => K (.bool (x && y))
   | .neq => K (.bool (!(x && y)))
   | _ => False
  | none => False
 | none => False
def vBin (P : Program) (op : BinOp) (t : TypeId) (a b : V) (K : V → Prop) : Prop := match a with
 | .int j x => match b with
  | .int k y => match isShift op with
   | true => vShift op j x y K
   | false => j = k ∧ vBinI op j x y K
  | _ => False
 | .str x => match b with | .str y => vBinS op x y K | _ => False
 | .bool x => match b with | .bool y => isBoolT P t = true ∧ vBinB op x y K | _ => False
 | a => vNilEq P op t a b K
def vMin (big : Bool) (a b : V) (K : V → Prop) : Prop := match a with
 | .int j x => match b with
  | .int _ y => K (.int j (match big with | true => max x y | false => min x y))
  | _ => False
 | _ => False
/-! maps: keys are plain cells, or some of these -/
inductive CT where
 | int (k : IntKind)
 | str
 | bool
inductive KSh where
 | one (c : CT)
 | many (l : List CT)
def plainC (P : Program) (t : TypeId) : Option CT := match P.underlying t with
 | some (.int k) => some (.int k)
 | some .string => some .str
 | some .bool => some .bool
 | _ => none
def plainCs (P : Program) : List Field → Option (List CT)
 | [] => some []
 | f :: fs => match plainC P f.type with
  | some c => match plainCs P fs with
   | some l => some (c :: l)
   | none => none
  | none => none
def keyS (P : Program) (t : TypeId) : Option KSh := match plainC P t with
 | some c => some (.one c)
 | none => match plainS P t with
  | some fs => match plainCs P fs with
   | some l => some (.many l)
   | none => none
  | none => none
def ctOk : CT → V → Prop
 | .int k, .int j _ => j = k
 | .str, .str _ => True
 | .bool, .bool _ => True
 | _, _ => False
def ctsOk : List CT → List V → Prop
 | [], [] => True
 | c :: l, v :: vs => ctOk c v ∧ ctsOk l vs
 | _, _ => False
def ksOk : KSh → V → Prop
 | .one c, v => ctOk c v
 | .many l, .agg cs => ctsOk l cs
 | _, _ => False
open Classical in
noncomputable def vGet : List (V × V) → V → Option V
 | [], _ => none
 | e :: es, a => if a = e.1 then some e.2 else vGet es a
open Classical in
noncomputable def vPut : List (V × V) → V → V → List (V × V)
 | [], a, x => [(a, x)]
 | e :: es, a, x => if a = e.1 then (a, x) :: es else e :: vPut es a x
def vAgg (P : Program) (op : BinOp) (t : TypeId) (a b : V) (K : V → Prop) : Prop := match keyS P t with
 | some (.many l) => match a with
  | .agg x => match b with
   | .agg y => ctsOk l x ∧ ctsOk l y ∧ match op with
    | .eql => (x = y → K (.bool true)) ∧ (x ≠ y → K (.bool false))
    | .neq => (x = y → K (.bool false)) ∧ (x ≠ y → K (.bool true))
    | _ => False
   | _ => False
  | _ => False
 | _ => False
def vNewMap (σ : Hp) (K : KV) : Prop := ∀ i, σ i = none → K (.mapv i) (upd σ i (.map []))
def vFound (ok : Bool) (v : V) (is : Bool) : V := match ok with | true => .tuple [v, .bool is] | false => v
noncomputable def vLook (sh : KSh) (z : V) (ok : Bool) (m a : V) (σ : Hp) (K : KV) : Prop := match m with
 | .mapv i => match σ i with
  | some (.map es) => ksOk sh a ∧ (∀ e ∈ es, ksOk sh e.1) ∧ (∀ v, vGet es a = some v → K (vFound ok v true) σ) ∧ (vGet es a = none → K (vFound ok z false) σ)
  | _ => False
 | _ => False
noncomputable def vMapUp (sh : KSh) (m a x : V) (σ : Hp) (k : Hp → Prop) : Prop := match m with
 | .mapv i => match σ i with
  | some (.map es) => ksOk sh a ∧ (∀ e ∈ es, ksOk sh e.1) ∧ k (upd σ i (.map (vPut es a x)))
  | _ => False
 | _ => False
/-! parts -/
def vBnd (d : Nat) (o : Option V) (k : Nat → Prop) : Prop := match o with
 | none => k d
 | some (.int _ (.ofNat n)) => k n
 | _ => False
def vBnds (len cap : Nat) (lo hi mx : Option V) (k : Nat → Nat → Nat → Prop) : Prop := vBnd cap mx fun m => vBnd len hi fun h => vBnd 0 lo fun l => l ≤ h ∧ h ≤ m ∧ m ≤ cap ∧ k l h m
def vSlT (x : V) (lo hi : Option V) (K : V → Prop) : Prop := match x with
 | .str s => vBnds s.length s.length lo hi none fun l h _ => K (.str ((s.take h).drop l))
 | _ => False
def vSlA (len size : Nat) (x : V) (lo hi mx : Option V) (K : V → Prop) : Prop := match x with
 | .ptr i o => vBnds len len lo hi mx fun l h m => K (.own i (if m = l then o else o + l * size) (h - l) (m - l))
 | _ => False
def vSlS (el size : Nat) (x : V) (lo hi mx : Option V) (σ : Hp) (K : V → Prop) : Prop := match x with
 | .own i o n c => vBnds n c lo hi mx fun l h m => K (.own i (if m = l then o else o + l * size) (h - l) (m - l))
 | .nil => vBnds 0 0 lo hi mx fun _ _ _ => K .nil
 | .acc i n => match mx with
  | none => match σ i with
   | some (.gro _ t n') => n' = n ∧ t = el ∧ vBnds n n lo hi none fun l h m => (l < m → K (.asl i n (0 + l * size) (h - l) (m - l))) ∧ (m = l → K (.emp i n))
   | _ => False
  | some _ => False
 | .asl i n o k c => match mx with
  | none => match σ i with
   | some (.gro _ t n') => n' = n ∧ t = el ∧ vBnds k c lo hi none fun l h m => (l < m → K (.asl i n (o + l * size) (h - l) (m - l))) ∧ (m = l → K (.emp i n))
   | _ => False
  | some _ => False
 | _ => False
def vClear (zero : List Value) (x : V) (σ : Hp) (k : Hp → Prop) : Prop := match x with
 | .nil => k σ
 | .own i o n _ => match n with
  | 0 => k σ
  | n + 1 => vZero zero fun z => match σ i with
   | some (.row vs t) => o + (List.replicate (n + 1) z).flatten.length ≤ vs.length ∧ k (upd σ i (.row (splice o (List.replicate (n + 1) z).flatten vs) t))
   | _ => False
 | .acc i q => match q with
  | 0 => k σ
  | n + 1 => vZero zero fun z => match σ i with
   | some (.gro vs t m) => m = q ∧ (List.replicate (n + 1) z).flatten.length ≤ vs.length ∧ k (upd σ i (.gro (splice 0 (List.replicate (n + 1) z).flatten vs) t m))
   | _ => False
 | .asl i q o n _ => match n with
  | 0 => k σ
  | n + 1 => vZero zero fun z => match σ i with
   | some (.gro vs t m) => m = q ∧ o + (List.replicate (n + 1) z).flatten.length ≤ vs.length ∧ k (upd σ i (.gro (splice o (List.replicate (n + 1) z).flatten vs) t m))
   | _ => False
 | _ => False
noncomputable def vCopy (size : Nat) (d x : V) (σ : Hp) (K : KV) : Prop := vSrc size x σ fun m new => match d with
 | .own i o n _ => m ≤ n ∧ match m with
  | 0 => K (.int .i64 (.ofNat 0)) σ
  | q + 1 => new.all oneV = true ∧ match σ i with
   | some (.row vs t) => o + new.length ≤ vs.length ∧ K (.int .i64 (.ofNat (q + 1))) (upd σ i (.row (splice o new vs) t))
   | _ => False
 | _ => False
def vMk (el : TypeId) (bytes : Nat) (zero : List Value) (l c : V) (σ : Hp) (K : KV) : Prop := match l with
 | .int _ (.ofNat l) => match c with
  | .int _ (.ofNat c) => l ≤ c ∧ bytes * c ≤ 1099511627776 ∧ c ≤ 65536 ∧ vZero zero fun z => vNew (List.replicate c z).flatten el σ fun i σ => K (.own i 0 l c) σ
  | _ => False
 | _ => False
def vUn (op : UnOp) (a : V) (K : V → Prop) : Prop := match op with
 | .not => match a with | .bool b => K (.bool (!b)) | _ => False
 | .neg => match a with | .int k n => K (.int k (wrapI k (Int.sub 0 n))) | _ => False
 | .xor => match a with | .int k n => K (.int k (k.wrap (BitVec.ofInt k.bits (if k.signed then -1 else k.max) ^^^ BitVec.ofInt k.bits n).toNat)) | _ => False
 | _ => False
end Go.Am

namespace Go.Am
open Go.RowKit Go.MapKept
/-! the same as AM's combinators, but always opened first by the kernel -/
section
variable {α β : Type}
noncomputable abbrev pncase (n : Nat) (z : β) (s : Nat → β) : β := Nat.rec (motive := fun _ => β) z (fun p _ => s p) n
noncomputable abbrev pocase (o : Option α) (z : β) (s : α → β) : β := Option.rec (motive := fun _ => β) z s o
noncomputable abbrev pnrec (z : β) (s : Nat → β → β) (n : Nat) : β := Nat.rec (motive := fun _ => β) z s n
noncomputable abbrev plrec (z : β) (s : α → List α → β → β) (l : List α) : β := List.rec (motive := fun _ => β) z s l
noncomputable abbrev ptrec (z : β) (s : Option α → Tr α → Tr α → β → β → β) (t : Tr α) : β := Tr.rec (motive := fun _ => β) z s t
noncomputable abbrev ptcase (t : Tr α) (z : β) (s : Option α → Tr α → Tr α → β) : β := Tr.rec (motive := fun _ => β) z (fun v l r _ _ => s v l r) t
end
section
variable {α : Type}
noncomputable abbrev getP (t : Tr α) (n : Nat) (k : α → Prop) : Prop :=
 ptrec (β := Nat → Prop) (fun _ => False) (fun v _ _ gl gr n => pncase n (pocase v False k) fun p => pncase (Nat.mod p 2) (gl (Nat.div p 2)) fun _ => gr (Nat.div p 2)) t n
noncomputable abbrev putP (x : α) (f : Nat) : Tr α → Nat → (Tr α → Prop) → Prop :=
 pnrec (β := Tr α → Nat → (Tr α → Prop) → Prop) (fun t _ k => k t)
  (fun _ ih t n k => ptcase t
   (pncase n (k (.node (some x) .leaf .leaf)) fun p => pncase (Nat.mod p 2) (ih .leaf (Nat.div p 2) fun c => k (.node none c .leaf)) fun _ => ih .leaf (Nat.div p 2) fun c => k (.node none .leaf c))
   (fun v l r => pncase n (k (.node (some x) l r)) fun p => pncase (Nat.mod p 2) (ih l (Nat.div p 2) fun c => k (.node v c r)) fun _ => ih r (Nat.div p 2) fun c => k (.node v l c))) f
noncomputable abbrev getN (t : Tr α) (n : Nat) (k : Prop) : Prop :=
 ptrec (β := Nat → Prop) (fun _ => k) (fun v _ _ gl gr n => pncase n (pocase v k fun _ => False) fun p => pncase (Nat.mod p 2) (gl (Nat.div p 2)) fun _ => gr (Nat.div p 2)) t n
noncomputable abbrev delP (t : Tr α) (n : Nat) (k : Tr α → Prop) : Prop :=
 ptrec (β := Nat → (Tr α → Prop) → Prop) (fun _ k => k .leaf) (fun v l r dl dr n k => pncase n (k (.node none l r)) fun p => pncase (Nat.mod p 2) (dl (Nat.div p 2) fun c => k (.node v c r)) fun _ => dr (Nat.div p 2) fun c => k (.node v l c)) t n k
end
structure VTm where
 t : Tr V
 n : Nat
structure VA where
 tmps : VTm
 g : Nat
noncomputable abbrev tmP (T : VTm) (i : Nat) (k : V → Prop) : Prop := getP T.t i k
noncomputable abbrev setTP (v : V) (T : VTm) (i : Nat) (k : VTm → Prop) : Prop := match T with
 | ⟨t, n⟩ => match Nat.blt i n with
  | true => putP v (Nat.succ i) t i fun t => k ⟨t, n⟩
  | false => False
noncomputable abbrev putAP (A : VA) (d : Tmp) (v : V) (k : VA → Prop) : Prop := match A with
 | ⟨T, g⟩ => setTP v T d fun T => k ⟨T, g⟩
noncomputable abbrev layTP (n : Nat) (args : List V) (k : VTm → Prop) : Prop :=
 plrec (β := Nat → VTm → Prop) (fun _ T => k T) (fun a _ ih i T => setTP a T i fun T => ih (Nat.succ i) T) args 0 ⟨.leaf, n⟩
def ofC (v : Value) : Option V := match v with
 | .agg ⟨cs⟩ => match ofVs cs with | some l => some (.agg l) | none => none
 | v => ofV v
structure EvV where
 f : VA → (V → Prop) → Prop
noncomputable def evV (x : Operand) : EvV := match x with
 | .tmp t => ⟨fun A k => tmP A.tmps t k⟩
 | .const v => match ofC v with | some d => ⟨fun _ k => k d⟩ | none => ⟨fun _ _ => False⟩
 | .global _ => ⟨fun _ _ => False⟩
 | .func f => ⟨fun _ k => k (.func f [] [])⟩
structure EvsV where
 f : VA → (List V → Prop) → Prop
noncomputable def evsV (xs : List Operand) : EvsV := plrec (β := EvsV) ⟨fun _ k => k []⟩ (fun x _ ih => ⟨fun A k => (evV x).f A fun v => ih.f A fun vs => k (v :: vs)⟩) xs
structure PtV where
 f : VA → (List (Nat × Nat × V) → Prop) → Prop
noncomputable def partsV (place : Nat → Option (Nat × Nat)) (ps : List (Nat × Operand)) : PtV :=
 plrec (β := PtV) ⟨fun _ k => k []⟩ (fun p _ ih => match place p.1 with
  | some (off, size) => ⟨fun A k => (evV p.2).f A fun v => ih.f A fun l => k ((off, size, v) :: l)⟩
  | none => ⟨fun _ _ => False⟩) ps
/-! what is given back, or handed on, may be taken by value; what is not needed is forgotten -/
inductive Frz (σ' σ : Hp) : V → Dt → Prop
 | int {k : IntKind} {z : Int} : Frz σ' σ (.int k z) (.int k z)
 | bool {b : Bool} : Frz σ' σ (.bool b) (.bool b)
 | str {l : List UInt8} : Frz σ' σ (.str l) (.str l)
 | list {τ : Tag} {cs : List Dt} {n : Nat} : Frz σ' σ (.list τ cs n) (.list cs n)
 | nil : Frz σ' σ .nil (.list [] 0)
 | acc {i n : Nat} {vs : List V} {t : TypeId} {cs : List Dt} (h : σ i = some (.gro vs t n)) (hn : σ' i = none) (hl : vs.length = cs.length) (hr : ∀ (j : Nat) (v : V) (d : Dt), vs[j]? = some v → cs[j]? = some d → Frz σ' σ v d) : Frz σ' σ (.acc i n) (.list cs n)
 | asl {i n o k c : Nat} {vs : List V} {t : TypeId} {cs : List Dt} (h : σ i = some (.gro vs t n)) (hn : σ' i = none) (hc : k ≤ c) (hl : o + cs.length ≤ vs.length) (hr : ∀ (j : Nat) (v : V) (d : Dt), vs[o + j]? = some v → cs[j]? = some d → Frz σ' σ v d) : Frz σ' σ (.asl i n o k c) (.list cs k)
 | own {i o n c : Nat} {vs : List V} {t : TypeId} {cs : List Dt} (h : σ i = some (.row vs t)) (hn : σ' i = none) (hc : n ≤ c) (hl : o + cs.length ≤ vs.length) (hr : ∀ (j : Nat) (v : V) (d : Dt), vs[o + j]? = some v → cs[j]? = some d → Frz σ' σ v d) : Frz σ' σ (.own i o n c) (.list cs n)
inductive Fz1 (σ' σ : Hp) (τ : Tag) : V → V → Prop
 | keep (v : V) : Fz1 σ' σ τ v v
 | dat {v : V} {d : Dt} (h : Frz σ' σ v d) : Fz1 σ' σ τ v (T τ d)
def FzL (σ' σ : Hp) (τ : Nat → Tag) (vs us : List V) : Prop := us.length = vs.length ∧ ∀ (j : Nat) (v u : V), vs[j]? = some v → us[j]? = some u → Fz1 σ' σ (τ j) v u
inductive Fz (σ' σ : Hp) (τ : Nat → Tag) : V → V → Prop
 | one {v u : V} (h : Fz1 σ' σ (τ 0) v u) : Fz σ' σ τ v u
 | agg {vs us : List V} (h : FzL σ' σ τ vs us) : Fz σ' σ τ (.agg vs) (.agg us)
 | tup {vs us : List V} (h : FzL σ' σ τ vs us) : Fz σ' σ τ (.tuple vs) (.tuple us)
def vRet (v : V) (σ : Hp) (K : KV) : Prop := ∃ (σ' : Hp) (u : (Nat → Tag) → V), Hle σ' σ ∧ (∀ τ, Fz σ' σ τ v (u τ)) ∧ ∀ τ, K (u τ) σ'
def vDrop (σ : Hp) (k : Hp → Prop) : Prop := ∃ σ', Hle σ' σ ∧ k σ'
structure VE where
 C : CallV
 R : Nat → List V → Hp → KV → Prop
 most : Nat
def VE.call (E : VE) (c : FuncId) (args : List V) (σ : Hp) (K : KV) : Prop := ∃ (σ' : Hp) (us : (Nat → Tag) → List V), Hle σ' σ ∧ (∀ τ, FzL σ' σ τ args (us τ)) ∧ ∀ τ, E.C c (us τ) σ' K
def vCallV (E : VE) (f : V) (args : List V) (σ : Hp) (K : KV) : Prop := match f with
 | .func g a c => E.call g (a ++ args ++ c) σ K
 | .yield l => E.R l args σ K
 | _ => False
def vRange (E : VE) (f : V) (ls : List Nat) (vs : List V) (n : Nat) (ps : List Tmp) (as bo : Code) (σ : Hp) (k : Option Code → Hp → Prop) : Prop := match f with
 | .func g a c => ∀ l, σ l = none → E.call g (a ++ [.yield l] ++ c) (upd σ l (.loop ls vs n ps as bo .ready none)) fun _ σ => vLeft l σ k
 | _ => False
structure OpV where
 f : VE → VA → Hp → KV → Prop
def noV : OpV := ⟨fun _ _ _ _ => False⟩
noncomputable def callV (P : Program) (c : Call) : OpV :=
 match c.callee with
 | .builtin .len => match c.argTypes.toList, c.args.toList with
  | [t], [a] => match isSlice P t, P.underlying t with
   | some _, _ => ⟨fun _ A σ K => (evV a).f A fun v => vLenS v fun v => K v σ⟩
   | none, some .string => ⟨fun _ A σ K => (evV a).f A fun v => vLenT v fun v => K v σ⟩
   | _, _ => noV
  | _, _ => noV
 | .builtin .append => match c.argTypes.toList, c.args.toList with
  | [sT, xT], [a, b] => match isSlice P sT, catT (P.underlying xT) with
   | some el, true => match P.info? el with
    | some info => match info.size, info.zero with
     | n + 1, some z => match Nat.beq z.cells.size (n + 1), Nat.beq ((sizeT P el).getD 0) (n + 1) with
      | true, true => ⟨fun _ A σ K => (evV a).f A fun a => (evV b).f A fun b => vApp el (n + 1) info.bytes a b σ K⟩
      | _, _ => noV
     | _, _ => noV
    | none => noV
   | _, _ => noV
  | _, _ => noV
 | .builtin .min => match c.args.toList with
  | [a, b] => ⟨fun _ A σ K => (evV a).f A fun a => (evV b).f A fun b => vMin false a b fun v => K v σ⟩
  | _ => noV
 | .builtin .max => match c.args.toList with
  | [a, b] => ⟨fun _ A σ K => (evV a).f A fun a => (evV b).f A fun b => vMin true a b fun v => K v σ⟩
  | _ => noV
 | .builtin .clear => match c.argTypes.toList, c.args.toList with
  | [t], [a] => match isSlice P t with
   | some el => match sizeT P el, zeroT P el with
    | some (m + 1), some zero => match Nat.beq zero.length (m + 1), allB flat0 zero with
     | true, true => ⟨fun _ A σ K => (evV a).f A fun a => vClear zero a σ fun σ => K undV σ⟩
     | _, _ => noV
    | _, _ => noV
   | none => noV
  | _, _ => noV
 | .builtin .copy => match c.argTypes.toList, c.args.toList with
  | dT :: _, [a, b] => match isSlice P dT with
   | some el => match sizeT P el with
    | some (m + 1) => ⟨fun _ A σ K => (evV a).f A fun a => (evV b).f A fun b => vCopy (m + 1) a b σ K⟩
    | _ => noV
   | none => noV
  | _, _ => noV
 | .builtin _ => noV
 | .value f => ⟨fun E A σ K => (evsV c.args.toList).f A fun args => (evV f).f A fun f => vCallV E f args σ K⟩
 | .invoke r m => ⟨fun E A σ K => (evsV c.args.toList).f A fun args => (evV r).f A fun v => vInv P E.call v m args σ K⟩
structure OvO where
 f : VA → (Option V → Prop) → Prop
noncomputable def evO (x : Option Operand) : OvO := match x with
 | none => ⟨fun _ k => k none⟩
 | some x => ⟨fun A k => (evV x).f A fun v => k (some v)⟩
def bndOk (mx hi : Option Operand) : Bool := match mx, hi with | some _, none => false | _, _ => true
noncomputable def sliceV (P : Program) (t : TypeId) (x : Operand) (lo hi mx : Option Operand) : OpV :=
 match isSlice P t with
  | some el => match sizeT P el with
   | some size => ⟨fun _ A σ K => (evV x).f A fun x => (evO lo).f A fun lo => (evO hi).f A fun hi => (evO mx).f A fun mx => vSlS el size x lo hi mx σ fun v => K v σ⟩
   | none => noV
  | none => match P.underlying t with
   | some .string => match mx with
    | none => ⟨fun _ A σ K => (evV x).f A fun x => (evO lo).f A fun lo => (evO hi).f A fun hi => vSlT x lo hi fun v => K v σ⟩
    | some _ => noV
   | some (.array len el) => match sizeT P el with
    | some size => ⟨fun _ A σ K => (evV x).f A fun x => (evO lo).f A fun lo => (evO hi).f A fun hi => (evO mx).f A fun mx => vSlA len size x lo hi mx fun v => K v σ⟩
    | none => noV
   | _ => noV
noncomputable def makeSliceV (P : Program) (t : TypeId) (l c : Operand) : OpV :=
 match isSlice P t with
  | some el => match P.info? el, zeroT P el with
   | some info, some zero => match Nat.beq zero.length info.size, info.size, allB flat0 zero with
    | true, _ + 1, true => ⟨fun _ A σ K => (evV l).f A fun l => (evV c).f A fun c => vMk el info.bytes zero l c σ K⟩
    | _, _, _ => noV
   | _, _ => noV
  | none => noV
noncomputable def lookupV (P : Program) (t : TypeId) (x ix : Operand) (ok : Bool) : OpV := match mapT P t with
 | some (kt, et) => match keyS P kt, zeroV P et with
  | some sh, some z => match ofC z with
   | some z => ⟨fun _ A σ K => (evV x).f A fun x => (evV ix).f A fun ix => vLook sh z ok x ix σ K⟩
   | none => noV
  | _, _ => noV
 | none => noV
noncomputable def mapUpV (P : Program) (t : TypeId) (m a x : Operand) : OpV := match mapT P t with
 | some (kt, _) => match keyS P kt with
  | some sh => ⟨fun _ A σ K => (evV m).f A fun m => (evV a).f A fun a => (evV x).f A fun x => vMapUp sh m a x σ fun σ => K undV σ⟩
  | none => noV
 | none => noV
def notIface (P : Program) (t : TypeId) : Bool := match P.underlying t with | some (.interface _) => false | some _ => true | none => false
noncomputable def opV (P : Program) (o : Oper) : OpV :=
 match o.op with
 | .move x => ⟨fun _ A σ K => (evV x).f A fun v => K v σ⟩
 | .assign x => ⟨fun _ A σ K => (evV x).f A fun v => K v σ⟩
 | .pick c a b => ⟨fun E A σ K => (evV c).f A fun c => (evV a).f A fun a => (evV b).f A fun b => shutP E.most (vPick c a b fun v => K v σ)⟩
 | .alloc t => match zeroT P t with
  | some z => match allB flat0 z with
   | true => ⟨fun _ _ σ K => vAlloc z t σ K⟩
   | false => noV
  | none => noV
 | .box t x => ⟨fun _ A σ K => (evV x).f A fun v => vBox t v σ K⟩
 | .build t ps => match zeroT P t, P.underlying t with
  | some zero, some (.struct fields) => match placesOf P fields.toList with
   | some pl => match allB flat0 zero, ps.toList.all fun p => (pl[p.1]?).isSome with
    | true, true => ⟨fun _ A σ K => (partsV (pl[·]?) ps.toList).f A fun l => vBuild zero l fun v => K v σ⟩
    | _, _ => noV
   | none => noV
  | some zero, some (.array _ elem) => match sizeT P elem with
   | some size => match allB flat0 zero with
    | true => ⟨fun _ A σ K => (partsV (fun i => some (i * size, size)) ps.toList).f A fun l => vBuild zero l fun v => K v σ⟩
    | false => noV
   | none => noV
  | _, _ => noV
 | .buildSlice t len ps => match isSlice P t with
  | some elem => match sizeT P elem, zeroT P elem with
   | some (size + 1), some zero => match Nat.ble (len * (size + 1)) 16777216, Nat.beq zero.length (size + 1) with
    | true, true => match allB flat0 zero with
     | true => ⟨fun _ A σ K => (partsV (fun i => some (i * (size + 1), size + 1)) ps.toList).f A fun l => vBuildS elem len zero l σ K⟩
     | false => noV
    | _, _ => noV
   | _, _ => noV
  | none => noV
 | .load t a => match isAggT P t, sizeT P t with
  | some false, _ => ⟨fun _ A σ K => (evV a).f A fun a => vLd a σ K⟩
  | some true, some (n + 1) => ⟨fun _ A σ K => (evV a).f A fun a => vLdN (n + 1) a σ K⟩
  | _, _ => noV
 | .store t a x => match sizeT P t with
  | some n => ⟨fun _ A σ K => (evV a).f A fun a => (evV x).f A fun x => vSt n a x σ fun σ => K undV σ⟩
  | none => noV
 | .nilCheck x => ⟨fun _ A σ K => (evV x).f A fun v => vNil P v fun v => K v σ⟩
 | .binOp op t x y _ => match isAggT P t with
  | some true => ⟨fun _ A σ K => (evV x).f A fun a => (evV y).f A fun b => vAgg P op t a b fun v => K v σ⟩
  | _ => ⟨fun _ A σ K => (evV x).f A fun a => (evV y).f A fun b => vBin P op t a b fun v => K v σ⟩
 | .unOp op _ x => ⟨fun _ A σ K => (evV x).f A fun a => vUn op a fun v => K v σ⟩
 | .convert s d x => match P.underlying s, P.underlying d with
  | some (.int _), some (.int k) => ⟨fun _ A σ K => (evV x).f A fun a => vInt k a fun v => K v σ⟩
  | _, _ => noV
 | .makeInterface t x => match notIface P t with
  | true => ⟨fun _ A σ K => (evV x).f A fun v => K (.iface t v) σ⟩
  | false => noV
 | .makeFunc fn first cap => match fn with
  | .func f => ⟨fun _ A σ K => (evsV first.toList).f A fun a => (evsV cap.toList).f A fun b => K (.func f a b) σ⟩
  | .method s => match first.toList, cap.toList with
   | [x], [] => ⟨fun _ A σ K => (evV x).f A fun v => K (.meth s v) σ⟩
   | _, _ => noV
  | _ => noV
 | .fieldAddr s x f => match fieldOf P s f with
  | some fd => match sizeT P fd.type with
   | some (_ + 1) => ⟨fun _ A σ K => (evV x).f A fun x => vFld fd.offset x fun v => K v σ⟩
   | _ => noV
  | none => noV
 | .field t x f => match fieldOf P t f with
  | some fd => match isAggT P fd.type, sizeT P fd.type with
   | some false, _ => ⟨fun _ A σ K => (evV x).f A fun x => vField fd.offset x fun v => K v σ⟩
   | some true, some n => ⟨fun _ A σ K => (evV x).f A fun x => vFieldN fd.offset n x fun v => K v σ⟩
   | _, _ => noV
  | none => noV
 | .indexAddr t x ix => match isSlice P t with
  | some el => match sizeT P el with
   | some n => ⟨fun _ A σ K => (evV x).f A fun x => (evV ix).f A fun ix => vIdx n x ix fun v => K v σ⟩
   | none => noV
  | none => noV
 | .index t x ix => match P.underlying t with
  | some .string => ⟨fun _ A σ K => (evV x).f A fun x => (evV ix).f A fun ix => vStrAt x ix fun v => K v σ⟩
  | _ => noV
 | .slice t x lo hi mx => match bndOk mx hi with
  | true => sliceV P t x lo hi mx
  | false => noV
 | .makeSlice t l c => makeSliceV P t l c
 | .makeMap _ none => ⟨fun _ _ σ K => vNewMap σ K⟩
 | .lookup t x ix ok => lookupV P t x ix ok
 | .mapUpdate t m k x => mapUpV P t m k x
 | .insert t m k x => mapUpV P t m k x
 | .extract t i => ⟨fun _ A σ K => (evV t).f A fun v => vExt i v fun v => K v σ⟩
 | .call c => callV P c
 | _ => noV
abbrev KSV := VA → Hp → Prop
structure StV where
 f : VE → VA → Hp → KSV → Prop
structure ChV where
 f : VE → VA → Hp → Prop → Prop
noncomputable def doneV (P : Program) (o : Oper) : StV :=
 match o.dst with
 | some d => ⟨fun E A σ k => (opV P o).f E A σ fun v σ => putAP A d v fun A => k A σ⟩
 | none => ⟨fun E A σ k => (opV P o).f E A σ fun _ σ => k A σ⟩
noncomputable def doV (P : Program) (ops : Array Oper) (o : Oper) : StV :=
 match o.guard with
 | none => doneV P o
 | some (j, w) => match ops[j]? with
  | some o' => match o'.dst with
   | some g => match o.dst with
    | some d => ⟨fun E A σ k => tmP A.tmps g fun b => shutP E.most (vGuard w b (fun k => (opV P o).f E A σ k) σ fun v σ => putAP A d v fun A => k A σ)⟩
    | none => ⟨fun E A σ k => tmP A.tmps g fun b => shutP E.most (vGuard w b (fun k => (opV P o).f E A σ k) σ fun _ σ => k A σ)⟩
   | none => ⟨fun _ _ _ _ => False⟩
  | none => ⟨fun _ _ _ _ => False⟩
noncomputable def opsV (P : Program) (ops : Array Oper) (l : List Oper) : StV :=
 plrec (β := StV) ⟨fun _ A σ k => k A σ⟩ (fun o _ ih => ⟨fun E A σ k => (doV P ops o).f E A σ fun A σ => ih.f E A σ k⟩) l
noncomputable def chkV (P : Program) (ops : Array Oper) (l : List Nat) : ChV :=
 plrec (β := ChV) ⟨fun _ _ _ k => k⟩ (fun i _ ih => match ops[i]? with
  | some o => match o.dst with
   | some d => match o.guard with
    | none => ⟨fun E A σ k => tmP A.tmps d fun u => (opV P o).f E A σ fun v _ => vSame v u (ih.f E A σ k)⟩
    | some (j, w) => match ops[j]? with
     | some o' => match o'.dst with
      | some g => ⟨fun E A σ k => tmP A.tmps d fun u => tmP A.tmps g fun b => shutP E.most (vGuardC w b u (fun k => (opV P o).f E A σ fun v _ => vSame v u k) (ih.f E A σ k))⟩
      | none => ⟨fun _ _ _ _ => False⟩
     | none => ⟨fun _ _ _ _ => False⟩
   | none => ⟨fun _ _ _ _ => False⟩
  | none => ⟨fun _ _ _ _ => False⟩) l
noncomputable def lopV (P : Program) (ops : Array Oper) (i : Nat) (o : Oper) : OpV := match convSrc P ops i with
 | none => opV P o
 | some _ => noV
noncomputable def lateV (P : Program) (ops : Array Oper) (l : List Nat) : StV :=
 plrec (β := StV) ⟨fun _ A σ k => k A σ⟩ (fun i _ ih => match ops[i]? with
  | some o => match o.dst with
   | some d => ⟨fun E A σ k => (lopV P ops i o).f E A σ fun v σ => putAP A d v fun A => ih.f E A σ k⟩
   | none => ⟨fun E A σ k => (lopV P ops i o).f E A σ fun _ σ => ih.f E A σ k⟩
  | none => ⟨fun _ _ _ _ => False⟩) l
noncomputable abbrev absP (A : VA) (o : Oper) (k : Prop) : Prop := match o.dst with
 | some d => getN A.tmps.t d k
 | none => False
noncomputable def preV (P : Program) (ops : Array Oper) (l : List (Nat × List Nat)) : ChV :=
 plrec (β := ChV) ⟨fun _ _ _ k => k⟩ (fun p _ ih => match ops[p.1]? with
  | some o => ⟨fun E A σ k => absP A o (((lateV P ops p.2).f E A σ fun A σ => (lopV P ops p.1 o).f E A σ fun _ _ => True) ∧ ih.f E A σ k)⟩
  | none => ⟨fun _ _ _ _ => False⟩) l
noncomputable def pstepsV (P : Program) (ops : Array Oper) (l : List PStep) : StV :=
 plrec (β := StV) ⟨fun _ _ _ _ => False⟩ (fun s _ ih => match s with
  | .take i => match ops[i]? with
   | some o => ⟨fun E A σ k => (doV P ops o).f E A σ fun A σ => ih.f E A σ k⟩
   | none => ⟨fun _ _ _ _ => False⟩
  | .req chk pend D r chk' => match ops[r]? with
   | some o => ⟨fun E A σ k => (chkV P ops chk).f E A σ ((preV P ops pend).f E A σ ((lateV P ops D).f E A σ fun A σ => (doV P ops o).f E A σ fun A σ => (chkV P ops chk').f E A σ (ih.f E A σ k)))⟩
   | none => ⟨fun _ _ _ _ => False⟩
  | .fin chk pend D => ⟨fun E A σ k => (chkV P ops chk).f E A σ ((preV P ops pend).f E A σ ((lateV P ops D).f E A σ k))⟩) l
noncomputable abbrev delsP (ops : Array Oper) (l : List Nat) (A : VA) (k : VA → Prop) : Prop :=
 plrec (β := VA → Prop) k (fun i _ ih A => match ops[i]? with
  | some o => match o.dst with
   | some d => match A with | ⟨⟨t, n⟩, g⟩ => delP t d fun t => ih ⟨⟨t, n⟩, g⟩
   | none => False
  | none => False) l A
noncomputable def pstepsEV (P : Program) (ops : Array Oper) (l : List PStep) : StV :=
 plrec (β := StV) ⟨fun _ A σ k => k A σ⟩ (fun s _ ih => match s with
  | .take i => match ops[i]? with
   | some o => ⟨fun E A σ k => (doV P ops o).f E A σ fun A σ => ih.f E A σ k⟩
   | none => ⟨fun _ _ _ _ => False⟩
  | .req chk pend D r chk' => match ops[r]? with
   | some o => ⟨fun E A σ k => (chkV P ops chk).f E A σ ((preV P ops pend).f E A σ ((lateV P ops D).f E A σ fun A σ => (doV P ops o).f E A σ fun A σ => (chkV P ops chk').f E A σ (ih.f E A σ k)))⟩
   | none => ⟨fun _ _ _ _ => False⟩
  | .fin _ _ _ => ⟨fun _ _ _ _ => False⟩) l
def vGate (w : Bool) (v : V) (k : Prop) : Prop := match v with
 | .bool b => match w, b with | true, true => k | false, false => k | _, _ => False
 | _ => False
noncomputable def planSV (P : Program) (p : PlanS) : Array Oper → StV :=
 PlanS.rec (motive := fun _ => Array Oper → StV) (fun l ops => pstepsV P ops l) (fun l g t b _ ih ops => ⟨fun E A σ k => (pstepsEV P ops l).f E A σ fun A σ => tmP A.tmps t fun v => vGate b v ((ih (resolveG ops g b)).f E A σ k)⟩) p
noncomputable def regV (P : Program) (ops : Array Oper) (draw : Bool) : StV :=
 match draw with
 | true => match planQ P ops with
  | some l => match lates l with
   | [] => pstepsV P ops l
   | ls => ⟨fun E A σ k => delsP ops ls A fun A => (pstepsV P ops l).f E A σ k⟩
  | none => match plainOps ops with
   | true => match planS P (ops.size + 1) ops ⟨List.replicate ops.size false⟩ [] with
    | some p => ⟨fun E A σ k => delsP ops (latesS p) A fun A => (planSV P p ops).f E A σ k⟩
    | none => ⟨fun _ _ _ _ => False⟩
   | false => ⟨fun _ _ _ _ => False⟩
 | false => opsV P ops ops.toList
/-! code -/
abbrev CV := AExit → VA → Hp → Prop
structure CdV where
 f : VE → VA → Hp → CV → Prop
noncomputable abbrev valsP (l : List Nat) (A : VA) (k : List V → Prop) : Prop :=
 plrec (β := (List V → Prop) → Prop) (fun k => k []) (fun i _ ih k => tmP A.tmps i fun v => ih fun vs => k (v :: vs)) l k
noncomputable abbrev canonP (l : List Nat) (vs : List V) (nt g : Nat) (k : VA → Prop) : Prop :=
 plrec (β := List V → VTm → Prop) (fun _ T => k ⟨T, g⟩) (fun i _ ih vs T => match vs with | v :: vs => setTP v T i fun T => ih vs T | [] => False) l vs ⟨.leaf, nt⟩
abbrev LpV := VE → List V → Nat → Hp → (AExit → List V → Nat → Hp → Prop) → Prop
section
variable (P : Program) (tb : LiveT) (r : Option Nat)
noncomputable abbrev behindV (a : Code) (ih : List V → Nat → Hp → Prop) (K : AExit → List V → Nat → Hp → Prop) : CV := fun e A σ => match e with
 | .normal => valsP (keepOf tb a) A fun vs => ih vs A.tmps.n σ
 | e => valsP (outOf tb a e) A fun vs => K e vs A.tmps.n σ
noncomputable def roundsV (a : Code) (body : CdV) (E : VE) (K : AExit → List V → Nat → Hp → Prop) : Nat → List V → Nat → Hp → Prop :=
 pnrec (β := List V → Nat → Hp → Prop) (fun _ _ _ => False) (fun _ ih vs n σ => vDrop σ fun σ => canonP (keepOf tb a) vs n P.globals.size fun A => body.f E A σ (behindV tb a ih K))
noncomputable def roundsVX (a : Code) (body : CdV) : LpV := fun E vs n σ K => roundsV P tb a body E K E.most vs n σ
noncomputable abbrev outV (a : Code) (K : CV) : AExit → List V → Nat → Hp → Prop := fun e vs n σ => canonP (outOf tb a e) vs n P.globals.size fun A => K e A σ
noncomputable def loopV (a : Code) (lp : LpV) : CdV := ⟨fun E A σ K => valsP (keepOf tb a) A fun vs => lp E vs A.tmps.n σ (outV P tb a K)⟩
noncomputable def joinV (l : List Nat) (b : CdV) (E : VE) (K : CV) (vs : List V) (n : Nat) (σ : Hp) : Prop := pncase E.most False fun _ => vDrop σ fun σ => canonP l vs n P.globals.size fun A => b.f E A σ K
noncomputable abbrev thenV (j : Option (List Nat)) (b : CdV) (E : VE) (K : CV) : CV := fun e A σ => match e with
 | .normal => match j with
  | none => b.f E A σ K
  | some l => valsP l A fun vs => joinV P l b E K vs A.tmps.n σ
 | e => K e A σ
noncomputable abbrev blockV (id : Nat) (K : CV) : CV := fun e A σ => match e with
 | .exit i => vExit i id (K .normal A σ) (K (.exit i) A σ)
 | e => K e A σ
def rliveC (a : Code) : List Nat := match firstReg a with | some i => (tb.loop (1000000 + i)).1 | none => []
def rOk (r : Option Nat) (σ : Hp) (p : Prop) : Prop := match r with | none => p | some l => vInLoop l σ p
noncomputable def rangeV (f : Operand) (ps : Array Tmp) (as bo : Code) : CdV := ⟨fun E A σ K => (evV f).f A fun f => valsP (rliveC tb bo) A fun vs => rOk r σ (vRange E f (rliveC tb bo) vs A.tmps.n ps.toList as bo σ fun pe σ => vPend pe (K .normal A σ) (K .ret A σ) fun id => K (.exit id) A σ)⟩
noncomputable def codeV (lp : Code → LpV) : Code → CdV
 | .skip => ⟨fun _ A σ K => K .normal A σ⟩
 | .region _ ops draw => ⟨fun E A σ K => (regV P ops draw).f E A σ fun A σ => K .normal A σ⟩
 | .seq a b => ⟨fun E A σ K => (codeV lp a).f E A σ (thenV P (joinOf tb b) (codeV lp b) E K)⟩
 | .cond c a b => ⟨fun E A σ K => (evV c).f A fun v => vIf v ((codeV lp a).f E A σ K) ((codeV lp b).f E A σ K)⟩
 | .block id a => ⟨fun E A σ K => (codeV lp a).f E A σ (blockV id K)⟩
 | .loop a => loopV P tb a (lp a)
 | .scope a => codeV lp a
 | .rangeFunc f ps as bo => rangeV tb r f ps as bo
 | .exit id => ⟨fun _ A σ K => K (.exit id) A σ⟩
 | .label _ => ⟨fun _ A σ K => K .normal A σ⟩
 | .ret => ⟨fun _ A σ K => K .ret A σ⟩
 | _ => ⟨fun _ _ _ _ => False⟩
noncomputable def lpVX : Nat → Code → LpV
 | 0 => fun _ _ _ _ _ _ => False
 | n + 1 => fun a => roundsVX P tb a (codeV P tb r (lpVX n) a)
end
section
variable (P : Program) (tb : FuncId → LiveT)
noncomputable abbrev resultsP (rs : List ResultVar) (A : VA) (σ : Hp) (k : List V → Prop) : Prop :=
 plrec (β := (List V → Prop) → Prop) (fun k => k []) (fun x _ ih k => match x with
  | .tmp t => tmP A.tmps t fun v => ih fun vs => k (v :: vs)
  | .cell a t => match isAggT P t, sizeT P t with
   | some false, _ => tmP A.tmps a fun a => vLd a σ fun v _ => ih fun vs => k (v :: vs)
   | some true, some (n + 1) => tmP A.tmps a fun a => vLdN (n + 1) a σ fun v _ => ih fun vs => k (v :: vs)
   | _, _ => False) rs k
noncomputable abbrev finV (fn : Func) (K : KV) : CV := fun e A σ => match e with
 | .exit _ => False
 | _ => resultsP P fn.results.toList A σ fun vs => match vs with | [v] => vRet v σ K | vs => vRet (.tuple vs) σ K
noncomputable def fnV (f : FuncId) (E : VE) (args : List V) (σ : Hp) (K : KV) : Prop :=
 match P.funcs[f]? with
 | some fn => match fn.body with
  | some c => layTP fn.ntmps args fun ts => (codeV P (tb f) none (lpVX P (tb f) none deepX) c).f E ⟨ts, P.globals.size⟩ σ (finV P fn K)
  | none => False
 | none => False
noncomputable abbrev endV (l : Nat) (K : KV) : CV := fun e _ σ => match e with
 | .normal => vOver l .ready none true σ K
 | .ret => vOver l .done (some .ret) false σ K
 | .exit id => vOver l .done (some (.exit id)) false σ K
noncomputable abbrev beginV (n l : Nat) (bo : Code) (E : VE) (K : KV) : CV := fun e A σ => match e with
 | .normal => vBusy l σ fun σ => (codeV P (tb (rkey n bo)) (some l) (lpVX P (tb (rkey n bo)) (some l) deepX) bo).f E A σ (endV l K)
 | _ => False
noncomputable abbrev layPV (ps : List Tmp) (args : List V) (T : VTm) (k : VTm → Prop) : Prop :=
 plrec (β := List V → VTm → Prop) (fun as T => match as with | [] => k T | _ => False) (fun p _ ih as T => match as with | a :: as => setTP a T p fun T => ih as T | [] => False) ps args T
noncomputable def roundC (E : VE) (n : Nat) (ps : List Tmp) (as bo : Code) (l : Nat) (vs args : List V) (σ : Hp) (K : KV) : Prop :=
 canonP (rlive tb n bo) vs n P.globals.size fun A => layPV ps args A.tmps fun T => (codeV P (tb (rkey n bo)) (some l) (lpVX P (tb (rkey n bo)) (some l) deepX) as).f E ⟨T, P.globals.size⟩ σ (beginV P tb n l bo E K)
def roundV (E : VE) (l : Nat) (args : List V) (σ : Hp) (K : KV) : Prop := match σ l with
 | some (.loop ls vs n ps as bo _ _) => ls = rlive tb n bo ∧ roundC P tb E n ps as bo l vs args σ K
 | _ => False
abbrev OvV := FuncId → Option (List V → Hp → KV → Prop)
noncomputable def venv (ov : OvV) (most : Nat) (n : Nat) : VE :=
 pnrec (β := VE) ⟨fun _ _ _ _ => False, fun _ _ _ _ => False, most⟩ (fun _ E => ⟨fun f args σ K => match ov f with | some g => g args σ K | none => fnV P tb f E args σ K, fun l args σ K => roundV P tb E l args σ K, most⟩) n
variable (Tb : LiveT) (r : Option Nat) (E : VE)
noncomputable def descendV : List Dir → Nat → Code → List Nat → CV → (Nat → Code → CV → Prop) → Prop
 | [], D, c, _, K, k => k D c K
 | .l :: p, D, .seq a b, ms, K, k => descendV p D a ms (thenV P (joinOf Tb b) (codeV P Tb r (lpVX P Tb r D) b) E K) k
 | .r :: p, D, .seq _ b, ms, K, k => descendV p D b ms K k
 | .l :: p, D, .cond _ a _, ms, K, k => descendV p D a ms K k
 | .r :: p, D, .cond _ _ b, ms, K, k => descendV p D b ms K k
 | .d :: p, D, .block id a, ms, K, k => descendV p D a ms (blockV id K) k
 | .d :: p, D, .scope a, ms, K, k => descendV p D a ms K k
 | .d :: p, D + 1, .loop a, m :: ms, K, k => descendV p D a ms (behindV Tb a (roundsV P Tb a (codeV P Tb r (lpVX P Tb r D) a) E (outV P Tb a K) m) (outV P Tb a K)) k
 | _, _, _, _, _, _ => False
noncomputable def vjmpJ (f : FuncId) (E : VE) (p : List Dir) (ms : List Nat) (vs : List V) (σ : Hp) (K : KV) : Prop :=
 match P.funcs[f]? with
 | some fn => match fn.body with
  | some c => descendV P (tb f) none E p deepX c ms (finV P fn K) fun D c K => match joinOf (tb f) c with
   | some l => joinV P l (codeV P (tb f) none (lpVX P (tb f) none D) c) E K vs fn.ntmps σ
   | none => False
  | none => False
 | none => False
noncomputable def vjmp0 (f : FuncId) (E : VE) (p : List Dir) (ms : List Nat) (vs : List V) (σ : Hp) (K : KV) : Prop :=
 match P.funcs[f]? with
 | some fn => match fn.body with
  | some c => descendV P (tb f) none E p deepX c ms (finV P fn K) fun D c K => match joinOf (tb f) c with
   | some l => vDrop σ fun σ => canonP l vs fn.ntmps P.globals.size fun A => (codeV P (tb f) none (lpVX P (tb f) none D) c).f E A σ K
   | none => False
  | none => False
 | none => False
noncomputable def vjmpL (f : FuncId) (E : VE) (p : List Dir) (m : Nat) (ms : List Nat) (vs : List V) (σ : Hp) (K : KV) : Prop :=
 match P.funcs[f]? with
 | some fn => match fn.body with
  | some c => descendV P (tb f) none E p deepX c ms (finV P fn K) fun D c K => match D, c with
   | D + 1, .loop a => roundsV P (tb f) a (codeV P (tb f) none (lpVX P (tb f) none D) a) E (outV P (tb f) a K) m vs fn.ntmps σ
   | _, _ => False
  | none => False
 | none => False
def codeAt : List Dir → Code → Code
 | [], c => c
 | .l :: p, .seq a _ => codeAt p a
 | .r :: p, .seq _ b => codeAt p b
 | .l :: p, .cond _ a _ => codeAt p a
 | .r :: p, .cond _ _ b => codeAt p b
 | .d :: p, .block _ a => codeAt p a
 | .d :: p, .scope a => codeAt p a
 | .d :: p, .loop a => codeAt p a
 | .d :: p, .rangeFunc _ _ _ b => codeAt p b
 | _, c => c
def rgAt (f : FuncId) (p : List Dir) : Code := match P.funcs[f]? with
 | some fn => match fn.body with
  | some c => codeAt p c
  | none => .skip
 | none => .skip
def rgPs (f : FuncId) (p : List Dir) : List Tmp := match rgAt P f p with | .rangeFunc _ ps _ _ => ps.toList | _ => []
def rgAs (f : FuncId) (p : List Dir) : Code := match rgAt P f p with | .rangeFunc _ _ as _ => as | _ => .skip
def rgBo (f : FuncId) (p : List Dir) : Code := match rgAt P f p with | .rangeFunc _ _ _ bo => bo | _ => .skip
end
end Go.Am

namespace Go.Am
open Go.RowKit Go.MapKept
structure Fr' (B : Nat → Prop) (σ σ' : St) (B' : Nat → Prop) : Prop where
 n : σ.n ≤ σ'.n
 same : ∀ i, i < σ.n → ¬ B i → σ'.obj i = σ.obj i
 sub : ∀ i, B' i → B i ∨ σ.n ≤ i
theorem Fr'.trans {B B1 B2 : Nat → Prop} {σ σ1 σ2 : St} (h : Fr' B σ σ1 B1) (k : Fr' B1 σ1 σ2 B2) : Fr' B σ σ2 B2 := by
 refine ⟨Nat.le_trans h.n k.n, fun i hi hb => ?_, fun i hi => ?_⟩
 · rw [k.same i (Nat.lt_of_lt_of_le hi h.n) (fun hb1 => ?_), h.same i hi hb]
   rcases h.sub i hb1 with h1 | h1
   · exact hb h1
   · omega
 · rcases k.sub i hi with h1 | h1
   · exact h.sub i h1
   · exact .inr (Nat.le_trans h.n h1)
theorem Fr'.refl (B : Nat → Prop) (σ : St) : Fr' B σ σ B := ⟨Nat.le_refl _, fun _ _ _ => rfl, fun _ h => .inl h⟩
inductive It where
 | num
 | kind
 | int
 | is
 | text
 | nums
 | list (its : List It)
inductive D where
 | n (z : Int)
 | b (v : Bool)
 | s (l : List UInt8)
 | l (es : List (List D))
def Wr (c : CK) : Prop := c = .rs ∨ c = .exact ∨ ∃ l, c = .grown l
inductive Rd (σ : St) (C : Nat → Prop) : It → Value → D → Prop where
 | num {z : Nat} (h : z < 18446744073709551616) : Rd σ C .num (.int .u64 (.ofNat z)) (.n z)
 | kind {z : Nat} (h : z < 256) : Rd σ C .kind (.int .u8 (.ofNat z)) (.n z)
 | int {z : Int} (h1 : -9223372036854775808 ≤ z) (h2 : z < 9223372036854775808) : Rd σ C .int (.int .i64 z) (.n z)
 | is {v : Bool} : Rd σ C .is (.bool v) (.b v)
 | text {l : List UInt8} (h : l.length ≤ 140737488355328) : Rd σ C .text (.string ⟨⟨l⟩⟩) (.s l)
 | nums {v : Value} {es : List (List D)} (h : Rd σ C (.list [.num]) v (.l es)) : Rd σ C .nums v (.l es)
 | empty {its : List It} : Rd σ C (.list its) (.slice none 0 0) (.l [])
 | emptyR {its : List It} {b o s : Nat} : Rd σ C (.list its) (.slice (some ⟨b, o, some (s + 2)⟩) 0 0) (.l [])
 | row {its : List It} {b o n c : Nat} {sp : Option Nat} {vs : List Value} {e : TypeId} {ck : CK} {es : List (List D)} (hsp : spOk sp = true) (hb : b < σ.n) (hC : ¬ C b) (ho : σ.obj b = some (.cells vs e ck)) (hw : Wr ck)
  (hn : es.length = n) (hl : o + n * its.length ≤ vs.length) (hd : ∀ ds ∈ es, ds.length = its.length) (hN : n ≤ 140737488355328) (hnc : n ≤ c)
  (hr : ∀ (k : Nat) (ds : List D) (j : Nat) (it : It) (v : Value) (d : D), es[k]? = some ds → its[j]? = some it → vs[o + k * its.length + j]? = some v → ds[j]? = some d → Rd σ C it v d) : Rd σ C (.list its) (.slice (some ⟨b, o, sp⟩) n c) (.l es)
theorem Rd.fr {σ σ' : St} {C C' : Nat → Prop} (f : Fr' C σ σ' C') {it : It} {v : Value} {d : D} (h : Rd σ C it v d) : Rd σ' C' it v d := by
 induction h with
 | num h => exact .num h
 | kind h => exact .kind h
 | int h1 h2 => exact .int h1 h2
 | is => exact .is
 | text h => exact .text h
 | nums _ ih => exact .nums ih
 | empty => exact .empty
 | emptyR => exact .emptyR
 | row hsp hb hC ho hw hn hl hd hN hnc _ ih =>
  refine .row hsp (Nat.lt_of_lt_of_le hb f.n) (fun h => ?_) (by rw [f.same _ hb hC]; exact ho) hw hn hl hd hN hnc ih
  rcases f.sub _ h with h | h
  · exact hC h
  · omega
structure Ext' (σ σ' : St) : Prop where
 n : σ.n ≤ σ'.n
 same : ∀ i, i < σ.n → σ'.obj i = σ.obj i
theorem Ext'.fr {σ σ' : St} (h : Ext' σ σ') (B : Nat → Prop) : Fr' B σ σ' B := ⟨h.n, fun i hi _ => h.same i hi, fun _ hi => .inl hi⟩
theorem Ext'.refl (σ : St) : Ext' σ σ := ⟨Nat.le_refl _, fun _ _ => rfl⟩
structure RdA (σ : St) (C : Nat → Prop) (its : List It) (cs : List Value) (ds : List D) : Prop where
 len : cs.length = its.length
 dlen : ds.length = its.length
 rd : ∀ (j : Nat) (it : It) (v : Value) (d : D), its[j]? = some it → cs[j]? = some v → ds[j]? = some d → Rd σ C it v d
theorem RdA.fr {σ σ' : St} {C C' : Nat → Prop} {its : List It} {cs : List Value} {ds : List D} (h : RdA σ C its cs ds) (f : Fr' C σ σ' C') : RdA σ' C' its cs ds := ⟨h.len, h.dlen, fun j it v d a b c => (h.rd j it v d a b c).fr f⟩
theorem Ext'.trans {a b c : St} (h : Ext' a b) (k : Ext' b c) : Ext' a c := ⟨Nat.le_trans h.n k.n, fun i hi => by rw [k.same i (Nat.lt_of_lt_of_le hi h.n), h.same i hi]⟩
theorem Ext'.new (σ : St) (o : AObj) : Ext' σ (σ.new o) := ⟨Nat.le_succ _, fun _i hi => obj_new_old (Nat.ne_of_lt hi)⟩
end Go.Am

namespace Go.Am
open Go.RowKit Go.MapKept
structure Cx where
 ι : Nat → Option Nat
 η : Nat → Nat → Option Value
 θ : Nat → Option Value
 n0 : Nat
structure Cx.le0 (c d : Cx) : Prop where
 ι : ∀ i b, c.ι i = some b → d.ι i = some b
 η : ∀ i n v, c.η i n = some v → d.η i n = some v
 θ : ∀ k v, c.θ k = some v → d.θ k = some v
structure Cx.le (c d : Cx) : Prop where
 ι : ∀ i b, c.ι i = some b → d.ι i = some b
 η : ∀ i n v, c.η i n = some v → d.η i n = some v
 θ : ∀ k v, c.θ k = some v → d.θ k = some v
 n0 : d.n0 = c.n0
theorem Cx.le.refl (c : Cx) : c.le c := ⟨fun _ _ h => h, fun _ _ _ h => h, fun _ _ h => h, rfl⟩
theorem Cx.le.trans {a b c : Cx} (h : a.le b) (k : b.le c) : a.le c := ⟨fun i b e => k.ι i b (h.ι i b e), fun i n v e => k.η i n v (h.η i n v e), fun i v e => k.θ i v (h.θ i v e), k.n0.trans h.n0⟩
theorem Cx.le.to0 {a b : Cx} (h : a.le b) : a.le0 b := ⟨h.ι, h.η, h.θ⟩
structure Fc (C : Nat → Prop) (σ σ' : St) (C' : Nat → Prop) : Prop where
 n : σ.n ≤ σ'.n
 same : ∀ b, b < σ.n → ¬ C b → ∀ vs e ck, σ.obj b = some (.cells vs e ck) → σ'.obj b = some (.cells vs e ck)
 sub : ∀ b, C' b → C b ∨ σ.n ≤ b
theorem Fc.of {C C' : Nat → Prop} {σ σ' : St} (f : Fr' C σ σ' C') : Fc C σ σ' C' := ⟨f.n, fun b h1 h2 _ _ _ e => by rw [f.same b h1 h2]; exact e, f.sub⟩
inductive DtR (σ : St) (C : Nat → Prop) : Dt → Value → Prop
 | int {k : IntKind} {z : Int} : DtR σ C (.int k z) (.int k z)
 | bool {b : Bool} : DtR σ C (.bool b) (.bool b)
 | str {l : List UInt8} : DtR σ C (.str l) (.string ⟨⟨l⟩⟩)
 | nil : DtR σ C (.list [] 0) (.slice none 0 0)
 | emp {b o s : Nat} : DtR σ C (.list [] 0) (.slice (some ⟨b, o, some (s + 2)⟩) 0 0)
 | row {b o n c : Nat} {sp : Option Nat} {vs : List Value} {e : TypeId} {ck : CK} {cs : List Dt} (hsp : spOk sp = true) (hb : b < σ.n) (hC : ¬ C b) (ho : σ.obj b = some (.cells vs e ck)) (hl : o + cs.length ≤ vs.length) (hn : n ≤ c)
  (hr : ∀ (j : Nat) (d : Dt) (v : Value), cs[j]? = some d → vs[o + j]? = some v → DtR σ C d v) : DtR σ C (.list cs n) (.slice (some ⟨b, o, sp⟩) n c)
inductive TagR (c : Cx) (σ : St) (C : Nat → Prop) : Tag → Value → Prop
 | root {k : Nat} {w : Value} (h : c.θ k = some w) : TagR c σ C (.root k) w
 | sub {τ : Tag} {b o n cc k : Nat} {sp : Option Nat} {vs : List Value} {e : TypeId} {ck : CK} {w : Value} (h : TagR c σ C τ (.slice (some ⟨b, o, sp⟩) n cc)) (hb : b < σ.n) (hC : ¬ C b) (ho : σ.obj b = some (.cells vs e ck)) (hv : vs[o + k]? = some w) : TagR c σ C (.sub τ k) w
inductive VR' (c : Cx) (σ : St) (C : Nat → Prop) : V → Value → Prop
 | int {k : IntKind} {z : Int} : VR' c σ C (.int k z) (.int k z)
 | bool {b : Bool} : VR' c σ C (.bool b) (.bool b)
 | str {l : List UInt8} : VR' c σ C (.str l) (.string ⟨⟨l⟩⟩)
 | list {τ : Tag} {cs : List Dt} {n : Nat} {w : Value} (ht : TagR c σ C τ w) (hd : DtR σ C (.list cs n) w) : VR' c σ C (.list τ cs n) w
 | lptr {τ : Tag} {cs : List Dt} {b o n cc k : Nat} {sp : Option Nat} (ht : TagR c σ C τ (.slice (some ⟨b, o, sp⟩) n cc)) (hd : DtR σ C (.list cs n) (.slice (some ⟨b, o, sp⟩) n cc)) : VR' c σ C (.lptr τ cs k) (.pointer (some ⟨b, o + k, none⟩))
 | nil : VR' c σ C .nil (.slice none 0 0)
 | acc {i n : Nat} {w : Value} (h : c.η i n = some w) : VR' c σ C (.acc i n) w
 | asl {i n o k cc b : Nat} (h : c.η i n = some (.slice (some ⟨b, 0, some 0⟩) n n)) : VR' c σ C (.asl i n o k cc) (.slice (some ⟨b, o, some 0⟩) k cc)
 | empt {i n b : Nat} (h : c.η i n = some (.slice (some ⟨b, 0, some 0⟩) n n)) : VR' c σ C (.emp i n) (.slice (some ⟨b, 0, some 1⟩) 0 0)
 | gptr {i n o b : Nat} (h : c.η i n = some (.slice (some ⟨b, 0, some 0⟩) n n)) : VR' c σ C (.gptr i n o) (.pointer (some ⟨b, o, none⟩))
 | own {i o n m b : Nat} (h : c.ι i = some b) : VR' c σ C (.own i o n m) (.slice (some ⟨b, o, none⟩) n m)
 | ptr {i o b : Nat} (h : c.ι i = some b) : VR' c σ C (.ptr i o) (.pointer (some ⟨b, o, none⟩))
 | nilp : VR' c σ C .nilp (.pointer none)
 | nilI : VR' c σ C .nilI .nilIface
 | mapv {i b : Nat} (h : c.ι i = some b) : VR' c σ C (.mapv i) (.map (some b))
 | nilM : VR' c σ C .nilM (.map none)
 | nilF : VR' c σ C .nilF .nilFunc
 | yield {l b : Nat} (h : c.ι l = some b) : VR' c σ C (.yield l) (.func (.yield b) ⟨[]⟩ ⟨[]⟩)
 | func {f : FuncId} {a d : List V} {a' d' : List Value} (la : a.length = a'.length) (ld : d.length = d'.length) (ha : ∀ (k : Nat) (v : V) (w : Value), a[k]? = some v → a'[k]? = some w → VR' c σ C v w) (hd : ∀ (k : Nat) (v : V) (w : Value), d[k]? = some v → d'[k]? = some w → VR' c σ C v w) : VR' c σ C (.func f a d) (.func (.func f) ⟨a'⟩ ⟨d'⟩)
 | meth {s : String} {v : V} {w : Value} (h : VR' c σ C v w) : VR' c σ C (.meth s v) (.func (.method s) ⟨[w]⟩ ⟨[]⟩)
 | iface {t : TypeId} {v : V} {w : Value} (h : VR' c σ C v w) : VR' c σ C (.iface t v) (.iface t w)
 | agg {a : List V} {a' : List Value} (la : a.length = a'.length) (ha : ∀ (k : Nat) (v : V) (w : Value), a[k]? = some v → a'[k]? = some w → VR' c σ C v w) : VR' c σ C (.agg a) (.agg ⟨a'⟩)
 | tuple {a : List V} {a' : List Value} (la : a.length = a'.length) (ha : ∀ (k : Nat) (v : V) (w : Value), a[k]? = some v → a'[k]? = some w → VR' c σ C v w) : VR' c σ C (.tuple a) (.tuple ⟨a'⟩)
structure VRL (c : Cx) (σ : St) (C : Nat → Prop) (a : List V) (a' : List Value) : Prop where
 len : a.length = a'.length
 rd : ∀ (k : Nat) (v : V) (w : Value), a[k]? = some v → a'[k]? = some w → VR' c σ C v w
/-! what stays -/
section
variable {σ σ' : St} {C C' : Nat → Prop} {c d : Cx}
theorem DtR.mono' (f : Fc C σ σ' C') {x : Dt} {v : Value} (h : DtR σ C x v) : DtR σ' C' x v := by
 induction h with
 | int => exact .int
 | bool => exact .bool
 | str => exact .str
 | nil => exact .nil
 | emp => exact .emp
 | row hsp hb hC ho hl hn _ ih =>
  refine .row hsp (Nat.lt_of_lt_of_le hb f.n) (fun h => ?_) (f.same _ hb hC _ _ _ ho) hl hn ih
  rcases f.sub _ h with h | h
  · exact hC h
  · omega
theorem TagR.mono' (l : c.le0 d) (f : Fc C σ σ' C') {τ : Tag} {v : Value} (h : TagR c σ C τ v) : TagR d σ' C' τ v := by
 induction h with
 | root h => exact .root (l.θ _ _ h)
 | sub _ hb hC ho hv ih =>
  refine .sub ih (Nat.lt_of_lt_of_le hb f.n) (fun h => ?_) (f.same _ hb hC _ _ _ ho) hv
  rcases f.sub _ h with h | h
  · exact hC h
  · omega
theorem VR'.mono' (l : c.le0 d) (f : Fc C σ σ' C') {x : V} {v : Value} (h : VR' c σ C x v) : VR' d σ' C' x v := by
 induction h with
 | int => exact .int
 | bool => exact .bool
 | str => exact .str
 | list ht hd => exact .list (ht.mono' l f) (hd.mono' f)
 | lptr ht hd => exact .lptr (ht.mono' l f) (hd.mono' f)
 | nil => exact .nil
 | acc h => exact .acc (l.η _ _ _ h)
 | gptr h => exact .gptr (l.η _ _ _ h)
 | asl h => exact .asl (l.η _ _ _ h)
 | empt h => exact .empt (l.η _ _ _ h)
 | own h => exact .own (l.ι _ _ h)
 | ptr h => exact .ptr (l.ι _ _ h)
 | nilp => exact .nilp
 | nilI => exact .nilI
 | mapv h => exact .mapv (l.ι _ _ h)
 | nilM => exact .nilM
 | nilF => exact .nilF
 | yield h => exact .yield (l.ι _ _ h)
 | func la ld _ _ i1 i2 => exact .func la ld i1 i2
 | meth _ ih => exact .meth ih
 | iface _ ih => exact .iface ih
 | agg la _ ih => exact .agg la ih
 | tuple la _ ih => exact .tuple la ih
theorem DtR.mono (f : Fr' C σ σ' C') {x : Dt} {v : Value} (h : DtR σ C x v) : DtR σ' C' x v := h.mono' (.of f)
theorem VR'.mono (l : c.le d) (f : Fr' C σ σ' C') {x : V} {v : Value} (h : VR' c σ C x v) : VR' d σ' C' x v := h.mono' l.to0 (.of f)
theorem VRL.mono' (l : c.le0 d) (f : Fc C σ σ' C') {x : List V} {v : List Value} (h : VRL c σ C x v) : VRL d σ' C' x v := ⟨h.len, fun k a b p q => (h.rd k a b p q).mono' l f⟩
theorem VRL.mono (l : c.le d) (f : Fr' C σ σ' C') {x : List V} {v : List Value} (h : VRL c σ C x v) : VRL d σ' C' x v := ⟨h.len, fun k a b p q => (h.rd k a b p q).mono l f⟩
theorem TagR.fn {τ : Tag} {v : Value} (h : TagR c σ C τ v) : ∀ {w : Value}, TagR c σ C τ w → v = w := by
 induction h with
 | root h =>
  intro w k
  cases k with | root k => rw [h] at k; injection k
 | sub _ hb hC ho hv ih =>
  intro w k
  cases k with
  | sub h2 hb2 hC2 ho2 hv2 =>
   have := ih h2
   injection this with e1 e2 e3
   injection e1 with e1
   injection e1 with e4 e5 e6
   subst e4 e5
   rw [ho] at ho2
   injection ho2 with ho2
   injection ho2 with ho2
   subst ho2
   rw [hv] at hv2
   injection hv2
theorem listV_ext {a : List V} {x y : List Value} (hx : a.length = x.length) (hy : a.length = y.length) (h : ∀ (k : Nat) (v : V) (w : Value), a[k]? = some v → x[k]? = some w → ∀ {u : Value}, VR' c σ C v u → w = u) (k : ∀ (k : Nat) (v : V) (w : Value), a[k]? = some v → y[k]? = some w → VR' c σ C v w) : x = y := by
 refine List.ext_getElem (by omega) fun i a1 a2 => ?_
 exact h i _ _ (List.getElem?_eq_getElem (by omega)) (List.getElem?_eq_getElem a1) (k i _ _ (List.getElem?_eq_getElem (by omega)) (List.getElem?_eq_getElem a2))
theorem VR'.fn {x : V} {v : Value} (h : VR' c σ C x v) : ∀ {w : Value}, VR' c σ C x w → v = w := by
 induction h with
 | int => intro w k; cases k; rfl
 | bool => intro w k; cases k; rfl
 | str => intro w k; cases k; rfl
 | list ht _ => intro w k; cases k with | list ht2 _ => exact ht.fn ht2
 | lptr ht _ =>
  intro w k
  cases k with
  | lptr ht2 _ =>
   have := ht.fn ht2
   injection this with e1 e2 e3
   injection e1 with e1
   injection e1 with e4 e5 e6
   subst e4 e5
   rfl
 | nil => intro w k; cases k; rfl
 | acc h => intro w k; cases k with | acc k => rw [h] at k; injection k
 | asl h =>
  intro w k
  cases k with
  | asl k =>
   rw [h] at k
   injection k with k
   injection k with e1 e2 e3
   injection e1 with e1
   injection e1 with e4 e5 e6
   subst e4
   rfl
 | empt h =>
  intro w k
  cases k with
  | empt k =>
   rw [h] at k
   injection k with k
   injection k with e1 e2 e3
   injection e1 with e1
   injection e1 with e4 e5 e6
   subst e4
   rfl
 | gptr h =>
  intro w k
  cases k with
  | gptr k =>
   rw [h] at k
   injection k with k
   injection k with e1 e2 e3
   injection e1 with e1
   injection e1 with e4 e5 e6
   subst e4
   rfl
 | own h => intro w k; cases k with | own k => rw [h] at k; injection k with k; subst k; rfl
 | ptr h => intro w k; cases k with | ptr k => rw [h] at k; injection k with k; subst k; rfl
 | nilp => intro w k; cases k; rfl
 | nilI => intro w k; cases k; rfl
 | nilM => intro w k; cases k; rfl
 | mapv h => intro w k; cases k with | mapv k => rw [h] at k; injection k with k; subst k; rfl
 | nilF => intro w k; cases k; rfl
 | yield h => intro w k; cases k with | yield k => rw [h] at k; injection k with k; subst k; rfl
 | func la ld _ _ i1 i2 =>
  intro w k
  cases k with
  | func la2 ld2 k1 k2 => rw [listV_ext la la2 (fun k v w p q u => i1 k v w p q) k1, listV_ext ld ld2 (fun k v w p q u => i2 k v w p q) k2]
 | meth _ ih => intro w k; cases k with | meth k => rw [ih k]
 | iface _ ih => intro w k; cases k with | iface k => rw [ih k]
 | agg la _ ih => intro w k; cases k with | agg la2 k => rw [listV_ext la la2 (fun k v w p q u => ih k v w p q) k]
 | tuple la _ ih => intro w k; cases k with | tuple la2 k => rw [listV_ext la la2 (fun k v w p q u => ih k v w p q) k]
/-! lists -/
theorem VRL.nil : VRL c σ C [] [] := ⟨rfl, fun k v w a => by simp at a⟩
theorem VRL.cons {v : V} {w : Value} {l : List V} {m : List Value} (h : VR' c σ C v w) (k : VRL c σ C l m) : VRL c σ C (v :: l) (w :: m) := by
 refine ⟨by simp [k.len], fun j x y a b => ?_⟩
 cases j with
 | zero => simp at a b; subst a b; exact h
 | succ j => simp at a b; exact k.rd j x y a b
theorem VRL.nil_inv {m : List Value} (h : VRL c σ C [] m) : m = [] := List.eq_nil_of_length_eq_zero (by simpa using h.len.symm)
theorem VRL.cons_inv {v : V} {l : List V} {m : List Value} (h : VRL c σ C (v :: l) m) : ∃ w m', m = w :: m' ∧ VR' c σ C v w ∧ VRL c σ C l m' := by
 cases m with
 | nil => have := h.len; simp at this
 | cons w m => exact ⟨w, m, rfl, h.rd 0 v w rfl rfl, by simpa using h.len, fun k x y a b => h.rd (k + 1) x y (by simpa using a) (by simpa using b)⟩
theorem VRL.app {l l2 : List V} {m m2 : List Value} (h : VRL c σ C l m) (k : VRL c σ C l2 m2) : VRL c σ C (l ++ l2) (m ++ m2) := by
 refine ⟨by simp [h.len, k.len], fun j x y a b => ?_⟩
 have hl := h.len
 by_cases hj : j < l.length
 · rw [List.getElem?_append_left hj] at a
   rw [List.getElem?_append_left (by omega)] at b
   exact h.rd j x y a b
 · rw [List.getElem?_append_right (by omega)] at a b
   exact k.rd _ x y a (by rw [hl]; exact b)
theorem VRL.take {l : List V} {m : List Value} (h : VRL c σ C l m) (n : Nat) : VRL c σ C (l.take n) (m.take n) := by
 refine ⟨by simp [h.len], fun j x y a b => ?_⟩
 rw [List.getElem?_take] at a b
 split at a
 · rename_i hj; rw [if_pos hj] at b; exact h.rd j x y a b
 · cases a
theorem VRL.drop {l : List V} {m : List Value} (h : VRL c σ C l m) (n : Nat) : VRL c σ C (l.drop n) (m.drop n) := by
 refine ⟨by simp [h.len], fun j x y a b => ?_⟩
 rw [List.getElem?_drop] at a b
 exact h.rd _ x y a b
theorem VRL.splice {l n : List V} {m n' : List Value} (h : VRL c σ C l m) (k : VRL c σ C n n') (o : Nat) : VRL c σ C (Am.splice o n l) (Am.splice o n' m) := by
 unfold Am.splice
 rw [← k.len]
 exact ((h.take o).app k).app (h.drop _)
theorem VRL.get {l : List V} {m : List Value} (h : VRL c σ C l m) {k : Nat} {v : V} (hv : l[k]? = some v) : ∃ w, m[k]? = some w ∧ VR' c σ C v w := by
 have hk : k < m.length := by rw [← h.len]; exact (List.getElem?_eq_some_iff.1 hv).1
 exact ⟨m[k], List.getElem?_eq_getElem hk, h.rd k v _ hv (List.getElem?_eq_getElem hk)⟩
theorem VRL.flatten {l : List V} {m : List Value} (h : VRL c σ C l m) (n : Nat) : VRL c σ C (List.replicate n l).flatten (List.replicate n m).flatten := by
 induction n with
 | zero => exact .nil
 | succ n ih => simp only [List.replicate_succ, List.flatten_cons]; exact h.app ih
theorem ofV_flat {v : Value} {x : V} (h : ofV v = some x) : flat0 v = true := by
 unfold ofV at h
 split at h <;> first | rfl | cases h
theorem ofV_ok {v : Value} {x : V} (h : ofV v = some x) : VR' c σ C x v := by
 unfold ofV at h
 split at h <;> first | (injection h with h; subst h; first | exact .int | exact .bool | exact .str | exact .nilp | exact .nil | exact .nilI | exact .nilF | exact .nilM) | cases h
theorem ofVs_ok : ∀ {z : List Value} {l : List V}, ofVs z = some l → VRL c σ C l z := by
 intro z
 induction z with
 | nil => intro l h; simp [ofVs] at h; subst h; exact .nil
 | cons v z ih =>
  intro l h
  unfold ofVs at h
  split at h
  · rename_i x hx
    split at h
    · rename_i xs hxs
      injection h with h; subst h
      exact .cons (ofV_ok hx) (ih hxs)
    · cases h
  · cases h
end
theorem T_ok {c : Cx} {σ : St} {C : Nat → Prop} {τ : Tag} {d : Dt} {w : Value} (h : DtR σ C d w) (ht : TagR c σ C τ w) : VR' c σ C (T τ d) w := by
 cases h with
 | int => exact .int
 | bool => exact .bool
 | str => exact .str
 | nil => exact .list ht .nil
 | emp => exact .list ht .emp
 | row a b e f g i j => exact .list ht (.row a b e f g i j)
end Go.Am

namespace Go.Am
open Go.RowKit Go.MapKept
def BornOk (es : List MapEntry) (ck : Nat) : Prop := (es.map (·.born)).Pairwise (· < ·) ∧ ∀ e ∈ es, e.born < ck
theorem BornOk.app {es : List MapEntry} {ck : Nat} (b : BornOk es ck) {e : MapEntry} (he : e.born = ck) : BornOk (es ++ [e]) (ck + 1) := by
 refine ⟨?_, fun x hx => ?_⟩
 · rw [List.map_append, List.pairwise_append]
   refine ⟨b.1, by simp, fun x hx y hy => ?_⟩
   obtain ⟨z, hz, rfl⟩ := List.mem_map.1 hx
   simp at hy
   subst hy
   rw [he]; exact b.2 z hz
 · rcases List.mem_append.1 hx with hx | hx
   · have := b.2 x hx; omega
   · simp at hx; subst hx; omega
theorem BornOk.set {es : List MapEntry} {ck : Nat} (b : BornOk es ck) {j : Nat} {e e2 : MapEntry} (hj : es[j]? = some e) (he : e2.born = e.born) : BornOk (es.set j e2) ck := by
 have hm : (es.set j e2).map (·.born) = es.map (·.born) := by
  apply List.ext_getElem?
  intro k
  rw [List.getElem?_map, List.getElem?_map, List.getElem?_set]
  split
  · rename_i h; subst h
    have hlt := (List.getElem?_eq_some_iff.1 hj).1
    rw [if_pos hlt, hj]; simp [he]
  · rfl
 refine ⟨by rw [hm]; exact b.1, fun x hx => ?_⟩
 obtain ⟨k, hk⟩ := List.getElem?_of_mem hx
 have h1 : ((es.set j e2).map (·.born))[k]? = some x.born := by rw [List.getElem?_map, hk]; rfl
 rw [hm, List.getElem?_map] at h1
 cases hq : es[k]? with
 | none => rw [hq] at h1; cases h1
 | some y =>
  rw [hq] at h1
  simp at h1
  rw [← h1]; exact b.2 y (List.mem_of_getElem? hq)
def ObR (c : Cx) (σ : St) (C : Nat → Prop) (o : Ob) (a : AObj) : Prop := match o with
 | .row vs t => ∃ ws, a = .cells ws t .exact ∧ VRL c σ C vs ws
 | .gro _ _ _ => False
 | .map es => ∃ es' clock, a = .map es' clock ∧ BornOk es' clock ∧ es.length = es'.length ∧ ∀ (k : Nat) (x : V × V) (y : MapEntry), es[k]? = some x → es'[k]? = some y → VR' c σ C x.1 y.key ∧ VR' c σ C x.2 y.val
 | .loop ls vs n ps as bo st pe => ∃ T, a = .loop T ps as bo st pe ∧ n = T.n ∧ vs.length = ls.length ∧ ∀ (j i : Nat) (v : V), ls[j]? = some i → vs[j]? = some v → ∃ w, T.t.get i = some w ∧ VR' c σ C v w
theorem ObR.mono' {c d : Cx} {σ σ' : St} {C C' : Nat → Prop} (l : c.le0 d) (f : Fc C σ σ' C') {o : Ob} {a : AObj} (h : ObR c σ C o a) : ObR d σ' C' o a := by
 cases o with
 | row vs t => obtain ⟨ws, e, r⟩ := h; exact ⟨ws, e, r.mono' l f⟩
 | gro => exact h
 | map es =>
  obtain ⟨es', k, e, hb, hl, r⟩ := h
  exact ⟨es', k, e, hb, hl, fun i x y p q => ⟨(r i x y p q).1.mono' l f, (r i x y p q).2.mono' l f⟩⟩
 | loop ls vs n ps as bo st pe =>
  obtain ⟨T, e, hn, q, r⟩ := h
  exact ⟨T, e, hn, q, fun j i v p p2 => let ⟨w, a, b⟩ := r j i v p p2; ⟨w, a, b.mono' l f⟩⟩
theorem ObR.mono {c d : Cx} {σ σ' : St} {C C' : Nat → Prop} (l : c.le d) (f : Fr' C σ σ' C') {o : Ob} {a : AObj} (h : ObR c σ C o a) : ObR d σ' C' o a := h.mono' l.to0 (.of f)
def LivAt (c : Cx) (h : Hp) (i b : Nat) : Prop := (∃ o, h i = some o ∧ isGro o = false ∧ c.ι i = some b) ∨ ∃ vs t n m, h i = some (.gro vs t n) ∧ c.η i m = some (.slice (some ⟨b, 0, some 0⟩) m m)
section
variable (P : Program) (B : Nat → Prop) (σb : St)
def Liv (c : Cx) (h : Hp) : Nat → Prop := fun b => B b ∨ ∃ i, LivAt c h i b
structure VS (c : Cx) (h : Hp) (σ : St) : Prop where
 base : Ext' σb σ
 bB : ∀ b, B b → b < σb.n
 ob : ∀ i o, h i = some o → isGro o = false → ∃ b a, c.ι i = some b ∧ σb.n ≤ b ∧ b < σ.n ∧ σ.obj b = some a ∧ ObR c σ (Liv B c h) o a
 gro : ∀ i vs t n, h i = some (.gro vs t n) → ∃ b ws olds sz, c.η i n = some (.slice (some ⟨b, 0, some 0⟩) n n) ∧ σb.n ≤ b ∧ b < σ.n ∧ σ.obj b = some (.cells ws t (.grown olds)) ∧ VRL c σ (Liv B c h) vs ws ∧ sizeT P t = some sz ∧ vs.length = n * sz ∧ ∀ m, n < m → c.η i m = none
 inj : ∀ i j b, LivAt c h i b → LivAt c h j b → i = j
 ηs : ∀ i n w, c.η i n = some w → ∃ b, w = .slice (some ⟨b, 0, some 0⟩) n n
 room : ∃ N, ∀ i, N ≤ i → h i = none ∧ c.ι i = none ∧ ∀ n, c.η i n = none
 rooms : ∃ M, ∀ k, M ≤ k → c.θ k = none
 ηb : ∀ i vs t n m b, h i = some (.gro vs t n) → c.η i m = some (.slice (some ⟨b, 0, some 0⟩) m m) → σb.n ≤ b ∧ b < σ.n
 old : ∀ i vs t n b ws e olds, h i = some (.gro vs t n) → c.η i n = some (.slice (some ⟨b, 0, some 0⟩) n n) → σ.obj b = some (.cells ws e (.grown olds)) → ∀ x ∈ olds, ∃ m, c.η i m = some (.slice (some ⟨x, 0, some 0⟩) m m)
end
section
variable {P : Program} {B : Nat → Prop} {σb : St} {c d : Cx} {h h' : Hp} {σ σ' : St}
theorem VS.row (s : VS P B σb c h σ) (i : Nat) (vs : List V) (t : TypeId) (e : h i = some (.row vs t)) : ∃ b ws, c.ι i = some b ∧ σb.n ≤ b ∧ b < σ.n ∧ σ.obj b = some (.cells ws t .exact) ∧ VRL c σ (Liv B c h) vs ws := by
 obtain ⟨b, a, a1, a2, a3, a4, ws, rfl, a5⟩ := s.ob i _ e rfl
 exact ⟨b, ws, a1, a2, a3, a4, a5⟩
theorem VS.bd (s : VS P B σb c h σ) {i b : Nat} (l : LivAt c h i b) : σb.n ≤ b ∧ b < σ.n := by
 rcases l with ⟨o, e1, eg, e2⟩ | ⟨vs, t, n, m, e1, e2⟩
 · obtain ⟨b', ws, a1, a2, a3, _⟩ := s.ob i o e1 eg
   rw [e2] at a1; injection a1 with a1; subst a1; exact ⟨a2, a3⟩
 · exact s.ηb i vs t n m b e1 e2
theorem VS.fresh (s : VS P B σb c h σ) : ∃ i, h i = none ∧ c.ι i = none ∧ ∀ n, c.η i n = none := by
 obtain ⟨N, hN⟩ := s.room
 exact ⟨N, hN N (Nat.le_refl _)⟩
theorem VS.lt_of_liv (s : VS P B σb c h σ) {b : Nat} (l : Liv B c h b) : b < σ.n := by
 rcases l with l | ⟨i, l⟩
 · exact Nat.lt_of_lt_of_le (s.bB b l) s.base.n
 · exact (s.bd l).2
def Cx.putι (c : Cx) (i b : Nat) : Cx := ⟨fun j => if j = i then some b else c.ι j, c.η, c.θ, c.n0⟩
def Cx.putη (c : Cx) (i n : Nat) (w : Value) : Cx := ⟨c.ι, fun j m => if j = i ∧ m = n then some w else c.η j m, c.θ, c.n0⟩
theorem Cx.putι_le {i b : Nat} (hi : c.ι i = none) : c.le (c.putι i b) := by
 refine ⟨fun j x e => ?_, fun _ _ _ e => e, fun _ _ e => e, rfl⟩
 show (if j = i then some b else c.ι j) = some x
 rw [if_neg (fun e2 => by subst e2; rw [hi] at e; cases e)]; exact e
theorem Cx.putη_le {i n : Nat} {w : Value} (hi : c.η i n = none) : c.le (c.putη i n w) := by
 refine ⟨fun _ _ e => e, fun j m x e => ?_, fun _ _ e => e, rfl⟩
 show (if j = i ∧ m = n then some w else c.η j m) = some x
 rw [if_neg (fun e2 => by obtain ⟨rfl, rfl⟩ := e2; rw [hi] at e; cases e)]; exact e
theorem upd_same {i : Nat} {o : Ob} : upd h i o i = some o := if_pos rfl
theorem upd_other {i j : Nat} {o : Ob} (e : j ≠ i) : upd h i o j = h j := if_neg e
theorem VS.newOb (s : VS P B σb c h σ) {i : Nat} (_h0 : h i = none) (h1 : c.ι i = none) (_h2 : ∀ n, c.η i n = none) {o : Ob} {ao : AObj} (hg : isGro o = false) (ho : ∀ d σ' C', c.le d → Fr' (Liv B c h) σ σ' C' → ObR d σ' C' o ao) :
 VS P B σb (c.putι i σ.n) (upd h i o) (σ.new ao) ∧ c.le (c.putι i σ.n) ∧ Fr' (Liv B c h) σ (σ.new ao) (Liv B (c.putι i σ.n) (upd h i o)) ∧ (c.putι i σ.n).ι i = some σ.n := by
 have le := Cx.putι_le (c := c) (i := i) (b := σ.n) h1
 have hli : ∀ j b, LivAt (c.putι i σ.n) (upd h i o) j b → (j = i ∧ b = σ.n) ∨ (j ≠ i ∧ LivAt c h j b) := by
  intro j b l
  by_cases e : j = i
  · subst e
    rcases l with ⟨o', _, _, e2⟩ | ⟨vs', t', n, m, e1, e2⟩
    · have : (if j = j then some σ.n else c.ι j) = some b := e2
      rw [if_pos rfl] at this
      injection this with this
      exact .inl ⟨rfl, this.symm⟩
    · rw [upd_same] at e1; injection e1 with e1; subst e1; cases hg
  · refine .inr ⟨e, ?_⟩
    rcases l with ⟨o', e1, eg, e2⟩ | ⟨vs', t', n, m, e1, e2⟩
    · rw [upd_other e] at e1
      have e2 : (if j = i then some σ.n else c.ι j) = some b := e2
      rw [if_neg e] at e2
      exact .inl ⟨o', e1, eg, e2⟩
    · rw [upd_other e] at e1
      exact .inr ⟨vs', t', n, m, e1, e2⟩
 have fr : Fr' (Liv B c h) σ (σ.new ao) (Liv B (c.putι i σ.n) (upd h i o)) := by
  refine ⟨Nat.le_succ _, fun j hj _ => obj_new_old (Nat.ne_of_lt hj), fun b l => ?_⟩
  rcases l with l | ⟨j, l⟩
  · exact .inl (.inl l)
  · rcases hli j b l with ⟨_, e⟩ | ⟨_, l⟩
    · exact .inr (Nat.le_of_eq e.symm)
    · exact .inl (.inr ⟨j, l⟩)
 refine ⟨⟨s.base.trans (.new σ _), s.bB, ?_, ?_, ?_, s.ηs, ?_, s.rooms, ?_, ?_⟩, le, fr, if_pos rfl⟩
 · intro j o' e eg
   by_cases e2 : j = i
   · subst e2
     rw [upd_same] at e
     injection e with e
     subst e
     exact ⟨σ.n, ao, if_pos rfl, s.base.n, Nat.lt_succ_self _, obj_new_same, ho _ _ _ le fr⟩
   · rw [upd_other e2] at e
     obtain ⟨b, a', a1, a2, a3, a4, a5⟩ := s.ob j o' e eg
     exact ⟨b, a', le.ι _ _ a1, a2, Nat.lt_succ_of_lt a3, by rw [obj_new_old (by omega)]; exact a4, a5.mono le fr⟩
 · intro j vs' t' n e
   have e2 : j ≠ i := fun e2 => by subst e2; rw [upd_same] at e; injection e with e; subst e; cases hg
   rw [upd_other e2] at e
   obtain ⟨b, ws', olds, sz, a1, a2, a3, a4, a5, a6⟩ := s.gro j vs' t' n e
   exact ⟨b, ws', olds, sz, a1, a2, Nat.lt_succ_of_lt a3, by rw [obj_new_old (by omega)]; exact a4, a5.mono le fr, a6⟩
 · intro j k b l1 l2
   rcases hli j b l1 with ⟨e1, e2⟩ | ⟨e1, l1⟩
   · rcases hli k b l2 with ⟨e3, e4⟩ | ⟨e3, l2⟩
     · rw [e1, e3]
     · have := (s.bd l2).2; omega
   · rcases hli k b l2 with ⟨e3, e4⟩ | ⟨e3, l2⟩
     · have := (s.bd l1).2; omega
     · exact s.inj j k b l1 l2
 · obtain ⟨N, hN⟩ := s.room
   refine ⟨max N (i + 1), fun j hj => ?_⟩
   obtain ⟨a1, a2, a3⟩ := hN j (by omega)
   exact ⟨by rw [upd_other (by omega)]; exact a1, by show (if j = i then _ else c.ι j) = none; rw [if_neg (by omega)]; exact a2, a3⟩
 · intro j vs' t' n m b e e3
   have e2 : j ≠ i := fun e2 => by subst e2; rw [upd_same] at e; injection e with e; subst e; cases hg
   rw [upd_other e2] at e
   obtain ⟨q1, q2⟩ := s.ηb j vs' t' n m b e e3
   exact ⟨q1, Nat.lt_succ_of_lt q2⟩
 · intro j vs' t' n b ws' e' olds e e3 e4
   have e2 : j ≠ i := fun e2 => by subst e2; rw [upd_same] at e; injection e with e; subst e; cases hg
   rw [upd_other e2] at e
   rw [obj_new_old (by have := (s.ηb j vs' t' n n b e e3).2; omega)] at e4
   exact s.old j vs' t' n b ws' e' olds e e3 e4
theorem VS.newRow (s : VS P B σb c h σ) {i : Nat} (h0 : h i = none) (h1 : c.ι i = none) (h2 : ∀ n, c.η i n = none) {vs : List V} {ws : List Value} (t : TypeId) (hv : VRL c σ (Liv B c h) vs ws) :
 VS P B σb (c.putι i σ.n) (upd h i (.row vs t)) (σ.new (.cells ws t .exact)) ∧ c.le (c.putι i σ.n) ∧ Fr' (Liv B c h) σ (σ.new (.cells ws t .exact)) (Liv B (c.putι i σ.n) (upd h i (.row vs t))) ∧ (c.putι i σ.n).ι i = some σ.n :=
 s.newOb h0 h1 h2 (o := .row vs t) rfl fun _ _ _ l f => ⟨ws, rfl, hv.mono l f⟩
theorem VS.setOb (s : VS P B σb c h σ) {i b : Nat} {o0 o : Ob} (h0 : h i = some o0) (g0 : isGro o0 = false) (h1 : c.ι i = some b) {ao : AObj} (hg : isGro o = false) (ho : ∀ σ' C', Fr' (Liv B c h) σ σ' C' → ObR c σ' C' o ao) :
 VS P B σb c (upd h i o) (σ.set b ao) ∧ Fr' (Liv B c h) σ (σ.set b ao) (Liv B c (upd h i o)) := by
 have hb : LivAt c h i b := .inl ⟨o0, h0, g0, h1⟩
 obtain ⟨g1, g2⟩ := s.bd hb
 have hli : ∀ j x, LivAt c (upd h i o) j x → LivAt c h j x := by
  intro j x l
  by_cases e : j = i
  · subst e
    rcases l with ⟨o', e1, eg, e2⟩ | ⟨vs2, t2, n, m, e1, e2⟩
    · exact .inl ⟨o0, h0, g0, e2⟩
    · rw [upd_same] at e1; injection e1 with e1; subst e1; cases hg
  · rcases l with ⟨o', e1, eg, e2⟩ | ⟨vs2, t2, n, m, e1, e2⟩
    · rw [upd_other e] at e1; exact .inl ⟨o', e1, eg, e2⟩
    · rw [upd_other e] at e1; exact .inr ⟨vs2, t2, n, m, e1, e2⟩
 have fr : Fr' (Liv B c h) σ (σ.set b ao) (Liv B c (upd h i o)) := by
  refine ⟨Nat.le_refl _, fun j _ hc => obj_set_other fun e => hc (.inr ⟨i, e ▸ hb⟩), fun x l => ?_⟩
  rcases l with l | ⟨j, l⟩
  · exact .inl (.inl l)
  · exact .inl (.inr ⟨j, hli j x l⟩)
 refine ⟨⟨⟨s.base.n, fun j hj => ?_⟩, s.bB, ?_, ?_, fun j k x l1 l2 => s.inj j k x (hli j x l1) (hli k x l2), s.ηs, ?_, s.rooms, ?_, ?_⟩, fr⟩
 · rw [obj_set_other (by omega)]; exact s.base.same j hj
 · intro j o' e eg
   by_cases e2 : j = i
   · subst e2
     rw [upd_same] at e
     injection e with e
     subst e
     exact ⟨b, ao, h1, g1, g2, obj_set_same, ho _ _ fr⟩
   · rw [upd_other e2] at e
     obtain ⟨x, a', a1, a2, a3, a4, a5⟩ := s.ob j o' e eg
     have : x ≠ b := fun e3 => e2 (s.inj j i b (.inl ⟨o', e, eg, e3 ▸ a1⟩) hb)
     exact ⟨x, a', a1, a2, a3, by rw [obj_set_other this]; exact a4, a5.mono (.refl c) fr⟩
 · intro j vs2 t2 n e
   have e2 : j ≠ i := fun e2 => by subst e2; rw [upd_same] at e; injection e with e; subst e; cases hg
   rw [upd_other e2] at e
   obtain ⟨x, ws2, olds, sz, a1, a2, a3, a4, a5, a6⟩ := s.gro j vs2 t2 n e
   have : x ≠ b := fun e3 => e2 (s.inj j i b (.inr ⟨vs2, t2, n, n, e, e3 ▸ a1⟩) hb)
   exact ⟨x, ws2, olds, sz, a1, a2, a3, by rw [obj_set_other this]; exact a4, a5.mono (.refl c) fr, a6⟩
 · obtain ⟨N, hN⟩ := s.room
   refine ⟨N, fun j hj => ?_⟩
   obtain ⟨a1, a2, a3⟩ := hN j hj
   have : j ≠ i := fun e => by subst e; rw [h0] at a1; cases a1
   exact ⟨by rw [upd_other this]; exact a1, a2, a3⟩
 · intro j vs2 t2 n m x e e3
   have e2 : j ≠ i := fun e2 => by subst e2; rw [upd_same] at e; injection e with e; subst e; cases hg
   rw [upd_other e2] at e
   exact s.ηb j vs2 t2 n m x e e3
 · intro j vs2 t2 n x ws' e' olds e e3 e4
   have e2 : j ≠ i := fun e2 => by subst e2; rw [upd_same] at e; injection e with e; subst e; cases hg
   rw [upd_other e2] at e
   have : x ≠ b := fun e5 => e2 (s.inj j i b (.inr ⟨vs2, t2, n, n, e, e5 ▸ e3⟩) hb)
   rw [obj_set_other this] at e4
   exact s.old j vs2 t2 n x ws' e' olds e e3 e4
theorem VS.setRow (s : VS P B σb c h σ) {i b : Nat} {vs vs' : List V} {t : TypeId} (h0 : h i = some (.row vs t)) (h1 : c.ι i = some b) {ws' : List Value} (hv : VRL c σ (Liv B c h) vs' ws') :
 VS P B σb c (upd h i (.row vs' t)) (σ.set b (.cells ws' t .exact)) ∧ Fr' (Liv B c h) σ (σ.set b (.cells ws' t .exact)) (Liv B c (upd h i (.row vs' t))) :=
 s.setOb h0 rfl h1 (o := .row vs' t) rfl fun _ _ f => ⟨ws', rfl, hv.mono (.refl c) f⟩
theorem VS.drop (s : VS P B σb c h σ) (l : Hle h' h) : VS P B σb c h' σ ∧ Fr' (Liv B c h) σ σ (Liv B c h') := by
 have hli : ∀ j x, LivAt c h' j x → LivAt c h j x := by
  intro j x k
  rcases k with ⟨o, e1, eg, e2⟩ | ⟨vs2, t2, n, m, e1, e2⟩
  · exact .inl ⟨o, l _ _ e1, eg, e2⟩
  · exact .inr ⟨vs2, t2, n, m, l _ _ e1, e2⟩
 have fr : Fr' (Liv B c h) σ σ (Liv B c h') := by
  refine ⟨Nat.le_refl _, fun _ _ _ => rfl, fun x k => ?_⟩
  rcases k with k | ⟨j, k⟩
  · exact .inl (.inl k)
  · exact .inl (.inr ⟨j, hli j x k⟩)
 refine ⟨⟨s.base, s.bB, fun i o e eg => ?_, fun i vs t n e => ?_, fun j k x l1 l2 => s.inj j k x (hli j x l1) (hli k x l2), s.ηs, ?_, s.rooms, fun i vs t n m b e e3 => s.ηb i vs t n m b (l _ _ e) e3, fun i vs t n b ws e' olds e e3 e4 => s.old i vs t n b ws e' olds (l _ _ e) e3 e4⟩, fr⟩
 · obtain ⟨b, ws, a1, a2, a3, a4, a5⟩ := s.ob i o (l _ _ e) eg
   exact ⟨b, ws, a1, a2, a3, a4, a5.mono (.refl c) fr⟩
 · obtain ⟨b, ws, olds, sz, a1, a2, a3, a4, a5, a6⟩ := s.gro i vs t n (l _ _ e)
   exact ⟨b, ws, olds, sz, a1, a2, a3, a4, a5.mono (.refl c) fr, a6⟩
 · obtain ⟨N, hN⟩ := s.room
   refine ⟨N, fun j hj => ?_⟩
   obtain ⟨a1, a2, a3⟩ := hN j hj
   refine ⟨?_, a2, a3⟩
   cases e : h' j with
   | none => rfl
   | some o => rw [l _ _ e] at a1; cases a1
theorem VS.frz (s : VS P B σb c h σ) (l : Hle h' h) {v : V} {x : Dt} (k : Frz h' h v x) : ∀ {w : Value}, VR' c σ (Liv B c h) v w → DtR σ (Liv B c h') x w := by
 have fr := (s.drop l).2
 have dead : ∀ {i b : Nat}, LivAt c h i b → h' i = none → ¬ Liv B c h' b := by
  intro i b l1 hn l2
  rcases l2 with l2 | ⟨j, l2⟩
  · have := s.bB b l2; have := (s.bd l1).1; omega
  · have l3 : LivAt c h j b := by
     rcases l2 with ⟨o, e1, eg, e2⟩ | ⟨vs2, t2, n, m, e1, e2⟩
     · exact .inl ⟨o, l _ _ e1, eg, e2⟩
     · exact .inr ⟨vs2, t2, n, m, l _ _ e1, e2⟩
    have e := s.inj i j b l1 l3
    subst e
    rcases l2 with ⟨o, e1, eg, e2⟩ | ⟨vs2, t2, n, m, e1, e2⟩ <;> (rw [hn] at e1; cases e1)
 induction k with
 | int => intro w q; cases q; exact .int
 | bool => intro w q; cases q; exact .bool
 | str => intro w q; cases q; exact .str
 | list => intro w q; cases q with | list ht hd => exact hd.mono fr
 | nil => intro w q; cases q; exact .nil
 | @acc i n vs t cs e hn hl hr ih =>
  intro w q
  cases q with
  | acc q =>
   obtain ⟨b, ws, olds, sz, a1, a2, a3, a4, a5, a6⟩ := s.gro i vs t n e
   rw [a1] at q
   injection q with q
   subst q
   refine .row rfl a3 (dead (.inr ⟨vs, t, n, n, e, a1⟩) hn) a4 (by have := a5.len; omega) (Nat.le_refl _) fun j x v b1 b2 => ?_
   rw [Nat.zero_add] at b2
   have hj : j < vs.length := by have := (List.getElem?_eq_some_iff.1 b1).1; omega
   exact ih j vs[j] x (List.getElem?_eq_getElem hj) b1 (a5.rd j _ v (List.getElem?_eq_getElem hj) b2)
 | @asl i n o k cc vs t cs e hn hc hl hr ih =>
  intro w q
  cases q with
  | asl q =>
   obtain ⟨b, ws, olds, sz, a1, a2, a3, a4, a5, a6⟩ := s.gro i vs t n e
   rw [a1] at q
   injection q with q
   injection q with q
   injection q with q
   injection q with q
   subst q
   refine .row rfl a3 (dead (.inr ⟨vs, t, n, n, e, a1⟩) hn) a4 (by have := a5.len; omega) hc fun j x v b1 b2 => ?_
   have hj : o + j < vs.length := by have := (List.getElem?_eq_some_iff.1 b1).1; omega
   exact ih j vs[o + j] x (List.getElem?_eq_getElem hj) b1 (a5.rd (o + j) _ v (List.getElem?_eq_getElem hj) b2)
 | @own i o n cc vs t cs e hn hc hl hr ih =>
  intro w q
  cases q with
  | own q =>
   obtain ⟨b, ws, a1, a2, a3, a4, a5⟩ := s.row i vs t e
   rw [a1] at q
   injection q with q
   subst q
   refine .row rfl a3 (dead (.inl ⟨_, e, rfl, a1⟩) hn) a4 (by have := a5.len; omega) hc fun j x v b1 b2 => ?_
   have hj : o + j < vs.length := by have := (List.getElem?_eq_some_iff.1 b1).1; omega
   exact ih j vs[o + j] x (List.getElem?_eq_getElem hj) b1 (a5.rd (o + j) _ v (List.getElem?_eq_getElem hj) b2)
theorem VS.names (s : VS P B σb c h σ) (ws : List Value) : ∃ (d : Cx) (τ : Nat → Tag), c.le d ∧ VS P B σb d h σ ∧ Liv B d h = Liv B c h ∧ ∀ (k : Nat) (w : Value), ws[k]? = some w → TagR d σ (Liv B d h) (τ k) w := by
 obtain ⟨M, hM⟩ := s.rooms
 let d : Cx := ⟨c.ι, c.η, fun k => if k < M then c.θ k else ws[k - M]?, c.n0⟩
 have le : c.le d := by
  refine ⟨fun _ _ e => e, fun _ _ _ e => e, fun k v e => ?_, rfl⟩
  show (if k < M then c.θ k else ws[k - M]?) = some v
  by_cases hk : k < M
  · rw [if_pos hk]; exact e
  · rw [hM k (by omega)] at e; cases e
 have fr : Fr' (Liv B c h) σ σ (Liv B d h) := ⟨Nat.le_refl _, fun _ _ _ => rfl, fun _ k => .inl k⟩
 refine ⟨d, fun k => .root (M + k), le, ⟨s.base, s.bB, fun i o e eg => ?_, fun i vs t n e => ?_, s.inj, s.ηs, s.room, ⟨M + ws.length, fun k hk => ?_⟩, s.ηb, s.old⟩, rfl, fun k w e => .root ?_⟩
 · obtain ⟨b, ws, a1, a2, a3, a4, a5⟩ := s.ob i o e eg
   exact ⟨b, ws, a1, a2, a3, a4, a5.mono le fr⟩
 · obtain ⟨b, ws, olds, sz, a1, a2, a3, a4, a5, a6⟩ := s.gro i vs t n e
   exact ⟨b, ws, olds, sz, a1, a2, a3, a4, a5.mono le fr, a6⟩
 · show (if k < M then c.θ k else ws[k - M]?) = none
   rw [if_neg (by omega), List.getElem?_eq_none (by omega)]
 · show (if M + k < M then c.θ (M + k) else ws[M + k - M]?) = some w
   rw [if_neg (by omega), Nat.add_sub_cancel_left]; exact e
theorem VS.newGro (s : VS P B σb c h σ) {i : Nat} (h0 : h i = none) (h1 : c.ι i = none) (h2 : ∀ n, c.η i n = none) {vs : List V} {ws : List Value} {t : TypeId} {sz n : Nat} (hs : sizeT P t = some sz) (hn : vs.length = n * sz) (hv : VRL c σ (Liv B c h) vs ws) :
 let w : Value := .slice (some ⟨σ.n, 0, some 0⟩) n n
 VS P B σb (c.putη i n w) (upd h i (.gro vs t n)) (σ.new (.cells ws t (.grown []))) ∧ c.le (c.putη i n w) ∧ Fr' (Liv B c h) σ (σ.new (.cells ws t (.grown []))) (Liv B (c.putη i n w) (upd h i (.gro vs t n))) ∧ (c.putη i n w).η i n = some w := by
 intro w
 have le := Cx.putη_le (c := c) (i := i) (n := n) (w := w) (h2 n)
 have hli : ∀ j b, LivAt (c.putη i n w) (upd h i (.gro vs t n)) j b → (j = i ∧ b = σ.n) ∨ (j ≠ i ∧ LivAt c h j b) := by
  intro j b l
  by_cases e : j = i
  · subst e
    rcases l with ⟨o', e1, eg, e2⟩ | ⟨vs', t', n', m, e1, e2⟩
    · rw [upd_same] at e1; injection e1 with e1; subst e1; cases eg
    · have e2 : (if j = j ∧ m = n then some w else c.η j m) = _ := e2
      by_cases hm : m = n
      · rw [if_pos ⟨rfl, hm⟩] at e2
        injection e2 with e2
        injection e2 with e2
        injection e2 with e2
        injection e2 with e2
        exact .inl ⟨rfl, e2.symm⟩
      · rw [if_neg (fun x => hm x.2), h2] at e2; cases e2
  · refine .inr ⟨e, ?_⟩
    rcases l with ⟨o', e1, eg, e2⟩ | ⟨vs', t', n', m, e1, e2⟩
    · rw [upd_other e] at e1
      exact .inl ⟨o', e1, eg, e2⟩
    · rw [upd_other e] at e1
      have e2 : (if j = i ∧ m = n then some w else c.η j m) = _ := e2
      rw [if_neg (fun x => e x.1)] at e2
      exact .inr ⟨vs', t', n', m, e1, e2⟩
 have fr : Fr' (Liv B c h) σ (σ.new (.cells ws t (.grown []))) (Liv B (c.putη i n w) (upd h i (.gro vs t n))) := by
  refine ⟨Nat.le_succ _, fun j hj _ => obj_new_old (Nat.ne_of_lt hj), fun b l => ?_⟩
  rcases l with l | ⟨j, l⟩
  · exact .inl (.inl l)
  · rcases hli j b l with ⟨_, e⟩ | ⟨_, l⟩
    · exact .inr (Nat.le_of_eq e.symm)
    · exact .inl (.inr ⟨j, l⟩)
 refine ⟨⟨s.base.trans (.new σ _), s.bB, ?_, ?_, ?_, ?_, ?_, s.rooms, ?_, ?_⟩, le, fr, if_pos ⟨rfl, rfl⟩⟩
 · intro j o' e eg
   have e2 : j ≠ i := fun e2 => by subst e2; rw [upd_same] at e; injection e with e; subst e; cases eg
   rw [upd_other e2] at e
   obtain ⟨b, ws', a1, a2, a3, a4, a5⟩ := s.ob j o' e eg
   exact ⟨b, ws', a1, a2, Nat.lt_succ_of_lt a3, by rw [obj_new_old (by omega)]; exact a4, a5.mono le fr⟩
 · intro j vs' t' m e
   by_cases e2 : j = i
   · subst e2
     rw [upd_same] at e
     injection e with e
     injection e with e3 e4 e5
     subst e3 e4 e5
     refine ⟨σ.n, ws, [], sz, if_pos ⟨rfl, rfl⟩, s.base.n, Nat.lt_succ_self _, obj_new_same, hv.mono le fr, hs, hn, fun m hm => ?_⟩
     show (if j = j ∧ m = n then some w else c.η j m) = none
     rw [if_neg (fun x => by omega)]; exact h2 m
   · rw [upd_other e2] at e
     obtain ⟨b, ws', olds, sz', a1, a2, a3, a4, a5, a6, a7, a8⟩ := s.gro j vs' t' m e
     refine ⟨b, ws', olds, sz', le.η _ _ _ a1, a2, Nat.lt_succ_of_lt a3, by rw [obj_new_old (by omega)]; exact a4, a5.mono le fr, a6, a7, fun q hq => ?_⟩
     show (if j = i ∧ q = n then some w else c.η j q) = none
     rw [if_neg (fun x => e2 x.1)]; exact a8 q hq
 · intro j k b l1 l2
   rcases hli j b l1 with ⟨e1, e2⟩ | ⟨e1, l1⟩
   · rcases hli k b l2 with ⟨e3, e4⟩ | ⟨e3, l2⟩
     · rw [e1, e3]
     · have := (s.bd l2).2; omega
   · rcases hli k b l2 with ⟨e3, e4⟩ | ⟨e3, l2⟩
     · have := (s.bd l1).2; omega
     · exact s.inj j k b l1 l2
 · intro j m u e
   have e : (if j = i ∧ m = n then some w else c.η j m) = some u := e
   by_cases e2 : j = i ∧ m = n
   · rw [if_pos e2] at e; injection e with e; exact ⟨σ.n, by rw [← e, e2.2]⟩
   · rw [if_neg e2] at e; exact s.ηs j m u e
 · obtain ⟨N, hN⟩ := s.room
   refine ⟨max N (i + 1), fun j hj => ?_⟩
   obtain ⟨a1, a2, a3⟩ := hN j (by omega)
   exact ⟨by rw [upd_other (by omega)]; exact a1, a2, fun m => by show (if j = i ∧ m = n then some w else c.η j m) = none; rw [if_neg (fun x => by omega)]; exact a3 m⟩
 · intro j vs' t' n' m b e e3
   have e3 : (if j = i ∧ m = n then some w else c.η j m) = _ := e3
   by_cases e2 : j = i ∧ m = n
   · rw [if_pos e2] at e3
     injection e3 with e3
     injection e3 with e3
     injection e3 with e3
     injection e3 with e3
     rw [← e3]; exact ⟨s.base.n, Nat.lt_succ_self _⟩
   · rw [if_neg e2] at e3
     by_cases e4 : j = i
     · have e5 := e4 ▸ h2 m; rw [e5] at e3; cases e3
     · rw [upd_other e4] at e
       obtain ⟨q1, q2⟩ := s.ηb j vs' t' n' m b e e3
       exact ⟨q1, Nat.lt_succ_of_lt q2⟩
 · intro j vs' t' n' b ws' e' olds e e3 e5 x hx
   have e3 : (if j = i ∧ n' = n then some w else c.η j n') = _ := e3
   by_cases e4 : j = i
   · subst e4
     by_cases e6 : n' = n
     · rw [if_pos ⟨rfl, e6⟩] at e3
       injection e3 with e3
       injection e3 with e3
       injection e3 with e3
       injection e3 with e3
       rw [← e3, obj_new_same] at e5
       injection e5 with e5
       injection e5 with _ _ e5
       injection e5 with e5
       rw [← e5] at hx; cases hx
     · rw [if_neg (fun x => e6 x.2), h2] at e3; cases e3
   · rw [if_neg (fun x => e4 x.1)] at e3
     rw [upd_other e4] at e
     rw [obj_new_old (by have := (s.ηb j vs' t' n' n' b e e3).2; omega)] at e5
     obtain ⟨m, hm⟩ := s.old j vs' t' n' b ws' e' olds e e3 e5 x hx
     exact ⟨m, le.η _ _ _ hm⟩
theorem VS.moreGro (s : VS P B σb c h σ) {i n m b : Nat} {vs nv : List V} {t : TypeId} {sz : Nat} {ws nw : List Value} {olds : List Nat} (h0 : h i = some (.gro vs t n)) (hb : c.η i n = some (.slice (some ⟨b, 0, some 0⟩) n n)) (ho : σ.obj b = some (.cells ws t (.grown olds))) (hs : sizeT P t = some sz)
 (hn : nv.length = m * sz) (hm : 0 < m) (hvs : vs.length = n * sz) (hvw : VRL c σ (Liv B c h) vs ws) (hv : VRL c σ (Liv B c h) nv nw) :
 let w : Value := .slice (some ⟨σ.n, 0, some 0⟩) (n + m) (n + m)
 let σ' := (σ.set b (.cells ws t .stale)).new (.cells (ws ++ nw) t (.grown (b :: olds)))
 VS P B σb (c.putη i (n + m) w) (upd h i (.gro (vs ++ nv) t (n + m))) σ' ∧ c.le (c.putη i (n + m) w) ∧ Fr' (Liv B c h) σ σ' (Liv B (c.putη i (n + m) w) (upd h i (.gro (vs ++ nv) t (n + m)))) ∧ (c.putη i (n + m) w).η i (n + m) = some w := by
 intro w σ'
 obtain ⟨b', _, _, _, q1, _, _, _, _, _, _, q8⟩ := s.gro i vs t n h0
 have hlb : LivAt c h i b := .inr ⟨vs, t, n, n, h0, hb⟩
 obtain ⟨g1, g2⟩ := s.bd hlb
 have le := Cx.putη_le (c := c) (i := i) (n := n + m) (w := w) (q8 _ (by omega))
 have hσn : (σ.set b (.cells ws t .stale)).n = σ.n := rfl
 have hli : ∀ j x, LivAt (c.putη i (n + m) w) (upd h i (.gro (vs ++ nv) t (n + m))) j x → (j = i ∧ x = σ.n) ∨ LivAt c h j x := by
  intro j x l
  by_cases e : j = i
  · subst e
    rcases l with ⟨o', e1, eg, e2⟩ | ⟨vs', t', n', k, e1, e2⟩
    · rw [upd_same] at e1; injection e1 with e1; subst e1; cases eg
    · have e2 : (if j = j ∧ k = n + m then some w else c.η j k) = _ := e2
      by_cases hk : k = n + m
      · rw [if_pos ⟨rfl, hk⟩] at e2
        injection e2 with e2
        injection e2 with e2
        injection e2 with e2
        injection e2 with e2
        exact .inl ⟨rfl, e2.symm⟩
      · rw [if_neg (fun x => hk x.2)] at e2
        exact .inr (.inr ⟨vs, t, n, k, h0, e2⟩)
  · refine .inr ?_
    rcases l with ⟨o', e1, eg, e2⟩ | ⟨vs', t', n', k, e1, e2⟩
    · rw [upd_other e] at e1
      exact .inl ⟨o', e1, eg, e2⟩
    · rw [upd_other e] at e1
      have e2 : (if j = i ∧ k = n + m then some w else c.η j k) = _ := e2
      rw [if_neg (fun x => e x.1)] at e2
      exact .inr ⟨vs', t', n', k, e1, e2⟩
 have fr : Fr' (Liv B c h) σ σ' (Liv B (c.putη i (n + m) w) (upd h i (.gro (vs ++ nv) t (n + m)))) := by
  refine ⟨Nat.le_succ _, fun j hj hc => ?_, fun x l => ?_⟩
  · show ((σ.set b _).new _).obj j = _
    rw [obj_new_old (by rw [hσn]; omega), obj_set_other (show j ≠ b from fun e => hc (.inr ⟨i, e ▸ hlb⟩))]
  · rcases l with l | ⟨j, l⟩
    · exact .inl (.inl l)
    · rcases hli j x l with ⟨_, e⟩ | l
      · exact .inr (Nat.le_of_eq e.symm)
      · exact .inl (.inr ⟨j, l⟩)
 have oth : ∀ j x, j ≠ i → LivAt c h j x → σ'.obj x = σ.obj x := fun j x e l => by
  have : x ≠ b := fun e3 => e (s.inj j i b (e3 ▸ l) hlb)
  show ((σ.set b _).new _).obj x = _
  rw [obj_new_old (by rw [hσn]; have := (s.bd l).2; omega), obj_set_other this]
 refine ⟨⟨⟨Nat.le_succ_of_le s.base.n, fun j hj => ?_⟩, s.bB, ?_, ?_, ?_, ?_, ?_, s.rooms, ?_, ?_⟩, le, fr, if_pos ⟨rfl, rfl⟩⟩
 · have := s.base.n
   show ((σ.set b _).new _).obj j = _
   rw [obj_new_old (by rw [hσn]; omega), obj_set_other (by omega)]; exact s.base.same j hj
 · intro j o' e eg
   have e2 : j ≠ i := fun e2 => by subst e2; rw [upd_same] at e; injection e with e; subst e; cases eg
   rw [upd_other e2] at e
   obtain ⟨x, ws', a1, a2, a3, a4, a5⟩ := s.ob j o' e eg
   exact ⟨x, ws', a1, a2, Nat.lt_succ_of_lt a3, by rw [oth j x e2 (.inl ⟨o', e, eg, a1⟩)]; exact a4, a5.mono le fr⟩
 · intro j vs' t' k e
   by_cases e2 : j = i
   · subst e2
     rw [upd_same] at e
     injection e with e
     injection e with e3 e4 e5
     subst e3 e4 e5
     refine ⟨σ.n, ws ++ nw, b :: olds, sz, if_pos ⟨rfl, rfl⟩, s.base.n, Nat.lt_succ_self _, ?_, (hvw.app hv).mono le fr, hs, by rw [List.length_append, hvs, hn, Nat.add_mul], fun q hq => ?_⟩
     · show ((σ.set b _).new _).obj (σ.set b (.cells ws t .stale)).n = _
       exact obj_new_same
     · show (if j = j ∧ q = n + m then some w else c.η j q) = none
       rw [if_neg (fun x => by omega)]; exact q8 q (by omega)
   · rw [upd_other e2] at e
     obtain ⟨x, ws', olds', sz', a1, a2, a3, a4, a5, a6, a7, a8⟩ := s.gro j vs' t' k e
     refine ⟨x, ws', olds', sz', le.η _ _ _ a1, a2, Nat.lt_succ_of_lt a3, by rw [oth j x e2 (.inr ⟨vs', t', k, k, e, a1⟩)]; exact a4, a5.mono le fr, a6, a7, fun q hq => ?_⟩
     show (if j = i ∧ q = n + m then some w else c.η j q) = none
     rw [if_neg (fun x => e2 x.1)]; exact a8 q hq
 · intro j k x l1 l2
   rcases hli j x l1 with ⟨e1, e2⟩ | l1
   · rcases hli k x l2 with ⟨e3, e4⟩ | l2
     · rw [e1, e3]
     · have := (s.bd l2).2; omega
   · rcases hli k x l2 with ⟨e3, e4⟩ | l2
     · have := (s.bd l1).2; omega
     · exact s.inj j k x l1 l2
 · intro j k u e
   have e : (if j = i ∧ k = n + m then some w else c.η j k) = some u := e
   by_cases e2 : j = i ∧ k = n + m
   · rw [if_pos e2] at e; injection e with e; exact ⟨σ.n, by rw [← e, e2.2]⟩
   · rw [if_neg e2] at e; exact s.ηs j k u e
 · obtain ⟨N, hN⟩ := s.room
   refine ⟨max N (i + 1), fun j hj => ?_⟩
   obtain ⟨a1, a2, a3⟩ := hN j (by omega)
   exact ⟨by rw [upd_other (by omega)]; exact a1, a2, fun q => by show (if j = i ∧ q = n + m then some w else c.η j q) = none; rw [if_neg (fun x => by omega)]; exact a3 q⟩
 · intro j vs' t' n' k x e e3
   rcases hli j x (.inr ⟨vs', t', n', k, e, e3⟩) with ⟨_, e4⟩ | l
   · rw [e4]; exact ⟨s.base.n, Nat.lt_succ_self _⟩
   · obtain ⟨q1, q2⟩ := s.bd l
     exact ⟨q1, Nat.lt_succ_of_lt q2⟩
 · intro j vs' t' n' x ws' e' olds' e e3 e5 y hy
   have e3 : (if j = i ∧ n' = n + m then some w else c.η j n') = _ := e3
   by_cases e4 : j = i
   · subst e4
     rw [upd_same] at e
     injection e with e
     injection e with _ _ e6
     rw [if_pos ⟨rfl, e6.symm⟩] at e3
     injection e3 with e3
     injection e3 with e3
     injection e3 with e3
     injection e3 with e3
     have e7 : σ'.obj σ.n = some (.cells (ws ++ nw) t (.grown (b :: olds))) := by
      show ((σ.set b _).new _).obj (σ.set b (.cells ws t .stale)).n = _
      exact obj_new_same
     rw [← e3, e7] at e5
     injection e5 with e5
     injection e5 with _ _ e5
     injection e5 with e5
     rw [← e5] at hy
     rcases List.mem_cons.1 hy with rfl | hy
     · exact ⟨n, le.η _ _ _ hb⟩
     · obtain ⟨q, hq⟩ := s.old j vs t n b ws t olds h0 hb ho y hy
       exact ⟨q, le.η _ _ _ hq⟩
   · rw [if_neg (fun x => e4 x.1)] at e3
     rw [upd_other e4] at e
     rw [oth j x e4 (.inr ⟨vs', t', n', n', e, e3⟩)] at e5
     obtain ⟨q, hq⟩ := s.old j vs' t' n' x ws' e' olds' e e3 e5 y hy
     exact ⟨q, le.η _ _ _ hq⟩
theorem VS.setGro (s : VS P B σb c h σ) {i n b : Nat} {vs vs' : List V} {t : TypeId} {ws ws' : List Value} {olds ol kl : List Nat} (hol : ∀ x ∈ ol, x ∈ olds) (hkl : ∀ x ∈ kl, x ∈ olds) (h0 : h i = some (.gro vs t n)) (hb : c.η i n = some (.slice (some ⟨b, 0, some 0⟩) n n)) (ho : σ.obj b = some (.cells ws t (.grown olds))) (hl : vs'.length = vs.length) (hv : VRL c σ (Liv B c h) vs' ws') {σ' : St}
 (hn : σ'.n = σ.n) (hs : ∀ j, σ'.obj j = if j = b then some (.cells ws' t (.grown ol)) else if j ∈ kl then some .dead else σ.obj j) :
 VS P B σb c (upd h i (.gro vs' t n)) σ' ∧ Fr' (Liv B c h) σ σ' (Liv B c (upd h i (.gro vs' t n))) := by
 have hlb : LivAt c h i b := .inr ⟨vs, t, n, n, h0, hb⟩
 have hold : ∀ x ∈ olds, LivAt c h i x := fun x hx => by
  obtain ⟨m, hm⟩ := s.old i vs t n b ws t olds h0 hb ho x hx
  exact .inr ⟨vs, t, n, m, h0, hm⟩
 have hli : ∀ j x, LivAt c (upd h i (.gro vs' t n)) j x → LivAt c h j x := by
  intro j x l
  by_cases e : j = i
  · subst e
    rcases l with ⟨o', e1, eg, e2⟩ | ⟨vs2, t2, n', m, e1, e2⟩
    · rw [upd_same] at e1; injection e1 with e1; subst e1; cases eg
    · exact .inr ⟨vs, t, n, m, h0, e2⟩
  · rcases l with ⟨o', e1, eg, e2⟩ | ⟨vs2, t2, n', m, e1, e2⟩
    · rw [upd_other e] at e1; exact .inl ⟨o', e1, eg, e2⟩
    · rw [upd_other e] at e1; exact .inr ⟨vs2, t2, n', m, e1, e2⟩
 have same : ∀ x, ¬ LivAt c h i x → σ'.obj x = σ.obj x := fun x hx => by
  rw [hs, if_neg (fun e : x = b => hx (e ▸ hlb)), if_neg (fun e => hx (hold x (hkl x e)))]
 have oth : ∀ j x, j ≠ i → LivAt c h j x → σ'.obj x = σ.obj x := fun j x e l => same x fun l2 => e (s.inj j i x l l2)
 have fr : Fr' (Liv B c h) σ σ' (Liv B c (upd h i (.gro vs' t n))) := by
  refine ⟨Nat.le_of_eq hn.symm, fun j _ hc => same j fun l => hc (.inr ⟨i, l⟩), fun x l => ?_⟩
  rcases l with l | ⟨j, l⟩
  · exact .inl (.inl l)
  · exact .inl (.inr ⟨j, hli j x l⟩)
 refine ⟨⟨⟨by rw [hn]; exact s.base.n, fun j hj => ?_⟩, s.bB, ?_, ?_, fun j k x l1 l2 => s.inj j k x (hli j x l1) (hli k x l2), s.ηs, ?_, s.rooms, ?_, ?_⟩, fr⟩
 · rw [same j fun l => by have := (s.bd l).1; omega]; exact s.base.same j hj
 · intro j o' e eg
   have e2 : j ≠ i := fun e2 => by subst e2; rw [upd_same] at e; injection e with e; subst e; cases eg
   rw [upd_other e2] at e
   obtain ⟨x, a', a1, a2, a3, a4, a5⟩ := s.ob j o' e eg
   exact ⟨x, a', a1, a2, by rw [hn]; exact a3, by rw [oth j x e2 (.inl ⟨o', e, eg, a1⟩)]; exact a4, a5.mono (.refl c) fr⟩
 · intro j vs2 t2 k e
   by_cases e2 : j = i
   · subst e2
     rw [upd_same] at e
     injection e with e
     injection e with e3 e4 e5
     subst e3 e4 e5
     obtain ⟨x, ws2, olds', sz', a1, a2, a3, a4, a5, a6, a7, a8⟩ := s.gro j vs t n h0
     rw [hb] at a1
     injection a1 with a1
     injection a1 with a1
     injection a1 with a1
     injection a1 with a1
     subst a1
     exact ⟨b, ws', ol, sz', hb, a2, by rw [hn]; exact a3, by rw [hs, if_pos rfl], hv.mono (.refl c) fr, a6, by rw [hl]; exact a7, a8⟩
   · rw [upd_other e2] at e
     obtain ⟨x, ws2, olds', sz', a1, a2, a3, a4, a5, a6⟩ := s.gro j vs2 t2 k e
     exact ⟨x, ws2, olds', sz', a1, a2, by rw [hn]; exact a3, by rw [oth j x e2 (.inr ⟨vs2, t2, k, k, e, a1⟩)]; exact a4, a5.mono (.refl c) fr, a6⟩
 · obtain ⟨N, hN⟩ := s.room
   refine ⟨N, fun j hj => ?_⟩
   obtain ⟨a1, a2, a3⟩ := hN j hj
   have : j ≠ i := fun e => by subst e; rw [h0] at a1; cases a1
   exact ⟨by rw [upd_other this]; exact a1, a2, a3⟩
 · intro j vs2 t2 k m x e e3
   rw [hn]
   exact s.bd (hli j x (.inr ⟨vs2, t2, k, m, e, e3⟩))
 · intro j vs2 t2 k x ws2 e' olds' e e3 e5 y hy
   by_cases e2 : j = i
   · subst e2
     rw [upd_same] at e
     injection e with e
     injection e with _ _ e6
     subst e6
     rw [hb] at e3
     injection e3 with e3
     injection e3 with e3
     injection e3 with e3
     injection e3 with e3
     subst e3
     rw [hs, if_pos rfl] at e5
     injection e5 with e5
     injection e5 with _ _ e5
     injection e5 with e5
     rw [← e5] at hy
     exact s.old j vs t n b ws t olds h0 hb ho y (hol y hy)
   · rw [upd_other e2] at e
     rw [oth j x e2 (.inr ⟨vs2, t2, k, k, e, e3⟩)] at e5
     exact s.old j vs2 t2 k x ws2 e' olds' e e3 e5 y hy
end
end Go.Am

namespace Go.Am
open Go.RowKit Go.MapKept
section
variable {α : Type}
theorem getP_iff (t : Tr α) : ∀ (n : Nat) (k : α → Prop), getP t n k → ∃ x, t.get n = some x ∧ k x := by
 induction t with
 | leaf => intro n k h; cases h
 | node v l r ihl ihr =>
  intro n k h
  cases n with
  | zero =>
   cases v with
   | none => cases h
   | some x => exact ⟨x, rfl, h⟩
  | succ p =>
   have h : ncase (Nat.mod p 2) (getP l (Nat.div p 2) k) (fun _ => getP r (Nat.div p 2) k) := h
   have hm : p % 2 = 0 ∨ p % 2 = 1 := by omega
   rcases hm with hm | hm
   · have : Nat.mod p 2 = 0 := hm
     rw [this] at h
     obtain ⟨x, e1, e2⟩ := ihl _ _ (show getP l (Nat.div p 2) k from h)
     refine ⟨x, ?_, e2⟩
     have e3 : (p + 1) / 2 = Nat.div p 2 := by show _ = p / 2; omega
     simp only [Tr.get, Nat.add_eq_zero_iff, Nat.one_ne_zero, and_false, if_false, show (p + 1) % 2 = 1 by omega, if_true, e3]
     exact e1
   · have : Nat.mod p 2 = 0 + 1 := hm
     rw [this] at h
     obtain ⟨x, e1, e2⟩ := ihr _ _ (show getP r (Nat.div p 2) k from h)
     refine ⟨x, ?_, e2⟩
     have e3 : (p + 1) / 2 - 1 = Nat.div p 2 := by show _ = p / 2; omega
     simp only [Tr.get, Nat.add_eq_zero_iff, Nat.one_ne_zero, and_false, if_false, show ¬ (p + 1) % 2 = 1 by omega, e3]
     exact e1
theorem getN_iff (t : Tr α) {k : Prop} : ∀ (n : Nat), getN t n k → t.get n = none ∧ k := by
 induction t with
 | leaf => intro n h; exact ⟨rfl, h⟩
 | node v l r ihl ihr =>
  intro n h
  cases n with
  | zero =>
   cases v with
   | none => exact ⟨rfl, h⟩
   | some x => cases h
  | succ p =>
   have h : ncase (Nat.mod p 2) (getN l (Nat.div p 2) k) (fun _ => getN r (Nat.div p 2) k) := h
   have hm : p % 2 = 0 ∨ p % 2 = 1 := by omega
   rcases hm with hm | hm
   · have : Nat.mod p 2 = 0 := hm
     rw [this] at h
     obtain ⟨e1, e2⟩ := ihl _ (show getN l (Nat.div p 2) k from h)
     refine ⟨?_, e2⟩
     have e3 : (p + 1) / 2 = Nat.div p 2 := by show _ = p / 2; omega
     simp only [Tr.get, Nat.add_eq_zero_iff, Nat.one_ne_zero, and_false, if_false, show (p + 1) % 2 = 1 by omega, if_true, e3]
     exact e1
   · have : Nat.mod p 2 = 0 + 1 := hm
     rw [this] at h
     obtain ⟨e1, e2⟩ := ihr _ (show getN r (Nat.div p 2) k from h)
     refine ⟨?_, e2⟩
     have e3 : (p + 1) / 2 - 1 = Nat.div p 2 := by show _ = p / 2; omega
     simp only [Tr.get, Nat.add_eq_zero_iff, Nat.one_ne_zero, and_false, if_false, show ¬ (p + 1) % 2 = 1 by omega, e3]
     exact e1
theorem delP_eq (t : Tr α) : ∀ (n : Nat) (k : Tr α → Prop), delP t n k = k (t.del n) := by
 induction t with
 | leaf => intro n k; rfl
 | node v l r il ir =>
  intro n k
  cases n with
  | zero => rfl
  | succ p =>
   show ncase (p % 2) (delP l (p / 2) fun c => k (.node v c r)) (fun _ => delP r (p / 2) fun c => k (.node v l c)) = _
   rw [il, ir]
   have hsucc : p + 1 ≠ 0 := by omega
   simp only [Tr.del, if_neg hsucc]
   rcases Nat.mod_two_eq_zero_or_one p with h | h
   · rw [h, if_pos (by omega), show (p + 1) / 2 = p / 2 by omega]; rfl
   · rw [h, if_neg (by omega), show (p + 1) / 2 - 1 = p / 2 by omega]; rfl
theorem putP_eq (x : α) : ∀ (f : Nat) (t : Tr α) (n : Nat) (k : Tr α → Prop), putP x f t n k = k (Tr.putF x f t n) := by
 intro f
 induction f with
 | zero => intro t n k; rfl
 | succ f ih =>
  intro t n k
  cases t with
  | leaf =>
   cases n with
   | zero => rfl
   | succ p =>
    show ncase (Nat.mod p 2) (putP x f .leaf (Nat.div p 2) fun c => k (.node none c .leaf)) (fun _ => putP x f .leaf (Nat.div p 2) fun c => k (.node none .leaf c)) = _
    rw [ih, ih]
    have hm : p % 2 = 0 ∨ p % 2 = 1 := by omega
    rcases hm with hm | hm
    · have : Nat.mod p 2 = 0 := hm
      rw [this]
      have e3 : (p + 1) / 2 = Nat.div p 2 := by show _ = p / 2; omega
      simp only [Tr.putF, Nat.add_eq_zero_iff, Nat.one_ne_zero, and_false, if_false, show (p + 1) % 2 = 1 by omega, if_true, e3]
      rfl
    · have : Nat.mod p 2 = 0 + 1 := hm
      rw [this]
      have e3 : (p + 1) / 2 - 1 = Nat.div p 2 := by show _ = p / 2; omega
      simp only [Tr.putF, Nat.add_eq_zero_iff, Nat.one_ne_zero, and_false, if_false, show ¬ (p + 1) % 2 = 1 by omega, e3]
      rfl
  | node v l r =>
   cases n with
   | zero => rfl
   | succ p =>
    show ncase (Nat.mod p 2) (putP x f l (Nat.div p 2) fun c => k (.node v c r)) (fun _ => putP x f r (Nat.div p 2) fun c => k (.node v l c)) = _
    rw [ih, ih]
    have hm : p % 2 = 0 ∨ p % 2 = 1 := by omega
    rcases hm with hm | hm
    · have : Nat.mod p 2 = 0 := hm
      rw [this]
      have e3 : (p + 1) / 2 = Nat.div p 2 := by show _ = p / 2; omega
      simp only [Tr.putF, Nat.add_eq_zero_iff, Nat.one_ne_zero, and_false, if_false, show (p + 1) % 2 = 1 by omega, if_true, e3]
      rfl
    · have : Nat.mod p 2 = 0 + 1 := hm
      rw [this]
      have e3 : (p + 1) / 2 - 1 = Nat.div p 2 := by show _ = p / 2; omega
      simp only [Tr.putF, Nat.add_eq_zero_iff, Nat.one_ne_zero, and_false, if_false, show ¬ (p + 1) % 2 = 1 by omega, e3]
      rfl
theorem vNth_iff {l : List α} {i : Nat} {k : α → Prop} (h : vNth l i k) : ∃ a, l[i]? = some a ∧ k a := by
 unfold vNth at h
 split at h
 · rename_i a e; exact ⟨a, e, h⟩
 · cases h
end
structure MkOk (c : Cx) (σ : St) (C : Nat → Prop) (l : List Nat) : Prop where
 n0 : c.n0 ≤ σ.n
 nd : l.Nodup
 ok : ∀ d ∈ l, c.n0 ≤ d ∧ d < σ.n ∧ ¬ C d ∧ σ.obj d = some .defers
theorem MkOk.mono {c d : Cx} {σ σ' : St} {C C' : Nat → Prop} {m : List Nat} (k : MkOk c σ C m) (l : c.le d) (f : Fr' C σ σ' C') : MkOk d σ' C' m := by
 refine ⟨by rw [l.n0]; exact Nat.le_trans k.n0 f.n, k.nd, fun x hx => ?_⟩
 obtain ⟨h1, h2, h3, h4⟩ := k.ok x hx
 refine ⟨by rw [l.n0]; exact h1, Nat.lt_of_lt_of_le h2 f.n, fun h => ?_, by rw [f.same x h2 h3]; exact h4⟩
 rcases f.sub _ h with h | h
 · exact h3 h
 · omega
structure AR (c : Cx) (σ : St) (C : Nat → Prop) (A : VA) (A' : AAct) : Prop where
 n : A.tmps.n = A'.tmps.n
 g : A.g = A'.g
 marks : MkOk c σ C A'.marks
 got : ∀ i v, A.tmps.t.get i = some v → ∃ w, A'.tmps.t.get i = some w ∧ VR' c σ C v w
 abs : ∀ i, A.tmps.t.get i = none → A'.tmps.t.get i = none
section
variable {P : Program} {B : Nat → Prop} {σb : St} {c c' d : Cx} {h h' : Hp} {σ σ' : St} {C C' : Nat → Prop}
theorem AR.mono {A : VA} {A' : AAct} (a : AR c σ C A A') (l : c.le d) (f : Fr' C σ σ' C') : AR d σ' C' A A' :=
 ⟨a.n, a.g, a.marks.mono l f, fun i v e => let ⟨w, p, q⟩ := a.got i v e; ⟨w, p, q.mono l f⟩, a.abs⟩
theorem AR.put {A : VA} {A' : AAct} (a : AR c σ C A A') {i : Nat} {v : V} {w : Value} (hv : VR' c σ C v w) : AR c σ C ⟨⟨A.tmps.t.put i v, A.tmps.n⟩, A.g⟩ ⟨A'.tmps.put i w, A'.marks, A'.g⟩ := by
 refine ⟨a.n, a.g, a.marks, fun j x e => ?_, fun j e => ?_⟩
 · have e : (A.tmps.t.put i v).get j = some x := e
   rw [get_put] at e
   show ∃ w', (A'.tmps.t.put i w).get j = some w' ∧ _
   rw [get_put]
   by_cases hj : j = i
   · rw [if_pos hj] at e ⊢; injection e with e; subst e; exact ⟨w, rfl, hv⟩
   · rw [if_neg hj] at e ⊢; exact a.got j x e
 · have e : (A.tmps.t.put i v).get j = none := e
   rw [get_put] at e
   show (A'.tmps.t.put i w).get j = none
   rw [get_put]
   by_cases hj : j = i
   · rw [if_pos hj] at e; cases e
   · rw [if_neg hj] at e ⊢; exact a.abs j e
theorem tmP_sim {A : VA} {A' : AAct} (a : AR c σ C A A') {i : Nat} {k : V → Prop} {k' : Value → Bool} (h : tmP A.tmps i k) (hk : ∀ v w, VR' c σ C v w → k v → k' w = true) : tmK A'.tmps i k' = true := by
 obtain ⟨v, e, hv⟩ := getP_iff _ _ _ h
 obtain ⟨w, e2, r⟩ := a.got i v e
 unfold tmK
 rw [getK_eq, e2]
 exact hk v w r hv
theorem setTP_iff {v : V} {T : VTm} {i : Nat} {k : VTm → Prop} (h : setTP v T i k) : i < T.n ∧ k ⟨T.t.put i v, T.n⟩ := by
 obtain ⟨t, n⟩ := T
 unfold setTP at h
 simp only at h
 split at h
 · rename_i hb
   rw [putP_eq] at h
   exact ⟨Nat.le_of_ble_eq_true hb, h⟩
 · cases h
theorem setTK_eq {v : Value} {T : Tm} {i : Nat} (hi : i < T.n) (k : Tm → Bool) : setTK v T i k = k (T.put i v) := by
 unfold setTK
 rw [show Nat.blt i T.n = true from Nat.ble_eq_true_of_le hi, putK_eq]
 rfl
theorem putAP_sim {A : VA} {A' : AAct} (a : AR c σ C A A') {d : Tmp} {v : V} {w : Value} (hv : VR' c σ C v w) {k : VA → Prop} {k' : AAct → Bool} (h : putAP A d v k) (hk : ∀ B B', AR c σ C B B' → k B → k' B' = true) : putAK A' (some d) w k' = true := by
 obtain ⟨T, g⟩ := A
 obtain ⟨h1, h2⟩ := setTP_iff (show setTP v T d (fun T => k ⟨T, g⟩) from h)
 show setTK w A'.tmps d (fun ts => k' ⟨ts, A'.marks, A'.g⟩) = true
 rw [setTK_eq (by rw [← a.n]; exact h1)]
 exact hk _ _ (a.put hv) h2
theorem ofC_ok {v : Value} {x : V} (e : ofC v = some x) : flat1 v = true ∧ VR' c σ C x v := by
 unfold ofC at e
 split at e
 · rename_i cs
   split at e
   · rename_i l hl
     injection e with e; subst e
     have hvs : VRL c σ C l cs := ofVs_ok hl
     refine ⟨?_, .agg hvs.len hvs.rd⟩
     show cs.all flat0 = true
     have : ∀ (cs : List Value) (l : List V), ofVs cs = some l → cs.all flat0 = true := by
      intro cs
      induction cs with
      | nil => intro _ _; rfl
      | cons a cs ih =>
       intro l h
       unfold ofVs at h
       split at h
       · rename_i x hx
         split at h
         · rename_i xs hxs
           simp only [List.all_cons, ofV_flat hx, ih xs hxs, Bool.and_self]
         · cases h
       · cases h
     exact this cs l hl
   · cases e
 · have hf := ofV_flat e
   refine ⟨?_, ofV_ok e⟩
   cases v <;> first | exact hf | (simp [flat0] at hf)
theorem evV_sim {A : VA} {A' : AAct} (a : AR c σ C A A') {x : Operand} {k : V → Prop} {k' : Value → Bool} (h : (evV x).f A k) (hk : ∀ v w, VR' c σ C v w → k v → k' w = true) : evK A' x k' = true := by
 cases x with
 | tmp t => exact tmP_sim a h hk
 | const v =>
  unfold evV at h
  cases e : ofC v with
  | none => simp only [e] at h
  | some d =>
   simp only [e] at h
   obtain ⟨hf, r⟩ := ofC_ok (c := c) (σ := σ) (C := C) e
   unfold evK
   simp only [hf]
   exact hk d v r h
 | global g => cases h
 | func f => exact hk _ _ (.func (a' := []) (d' := []) rfl rfl (fun k v w e => by simp at e) (fun k v w e => by simp at e)) h
theorem evsV_sim {A : VA} {A' : AAct} (a : AR c σ C A A') : ∀ {xs : List Operand} {k : List V → Prop} {k' : List Value → Bool}, (evsV xs).f A k → (∀ vs ws, VRL c σ C vs ws → k vs → k' ws = true) → evsK A' xs k' = true := by
 intro xs
 induction xs with
 | nil => intro k k' h hk; exact hk [] [] .nil h
 | cons x xs ih =>
  intro k k' h hk
  have h : (evV x).f A (fun v => (evsV xs).f A fun vs => k (v :: vs)) := h
  refine evV_sim a h fun v w r h => ?_
  exact ih h fun vs ws rs h => hk (v :: vs) (w :: ws) (.cons r rs) h
/-! memory -/
theorem VS.one (s : VS P B σb c h σ) {v : V} {w : Value} (r : VR' c σ C v w) (ho : oneV v = true) : oneCell w = true := by
 cases r <;> first
  | rfl
  | (simp [oneV] at ho; done)
  | (rename_i e; obtain ⟨b, rfl⟩ := s.ηs _ _ _ e; rfl)
  | (rename_i ht hd; cases hd <;> rfl)
theorem VS.ones (s : VS P B σb c h σ) {vs : List V} {ws : List Value} (r : VRL c σ C vs ws) (ho : vs.all oneV = true) : ws.all oneCell = true := by
 rw [List.all_eq_true] at ho ⊢
 intro w hw
 obtain ⟨k, hk⟩ := List.getElem?_of_mem hw
 have hl := r.len
 have hkl := (List.getElem?_eq_some_iff.1 hk).1
 exact s.one (r.rd k vs[k] w (List.getElem?_eq_getElem (by omega)) hk) (ho _ (List.getElem_mem (by omega)))
theorem Tl_get (τ : Tag) : ∀ (l : List Dt) (o k : Nat), (Tl τ o l)[k]? = (l[k]?).map fun d => T (.sub τ (o + k)) d := by
 intro l
 induction l with
 | nil => intro o k; simp [Tl]
 | cons d l ih =>
  intro o k
  cases k with
  | zero => simp [Tl]
  | succ k =>
   simp only [Tl, List.getElem?_cons_succ, ih]
   rw [show o + 1 + k = o + (k + 1) by omega]
theorem Tl_len (τ : Tag) : ∀ (l : List Dt) (o : Nat), (Tl τ o l).length = l.length := by
 intro l
 induction l with
 | nil => intro o; rfl
 | cons d l ih => intro o; simp [Tl, ih]
theorem list_part {τ : Tag} {cs : List Dt} {b o n cc : Nat} {sp : Option Nat} (ht : TagR c σ C τ (.slice (some ⟨b, o, sp⟩) n cc)) (hd : DtR σ C (.list cs n) (.slice (some ⟨b, o, sp⟩) n cc)) {k m : Nat} (hk : k + m ≤ cs.length) (hm : 0 < m) :
 ∃ ws e ck, σ.obj b = some (.cells ws e ck) ∧ o + k + m ≤ ws.length ∧ VRL c σ C (Tl τ k ((cs.drop k).take m)) ((ws.drop (o + k)).take m) := by
 cases hd with
 | emp => simp at hk; omega
 | row hsp hb hC ho hl hn hr =>
  rename_i ws e ck
  refine ⟨ws, e, ck, ho, by omega, by rw [Tl_len]; simp; omega, fun j v w e1 e2 => ?_⟩
  rw [Tl_get, List.getElem?_take] at e1
  rw [List.getElem?_take] at e2
  by_cases hj : j < m
  · rw [if_pos hj, List.getElem?_drop] at e1 e2
    cases ed : cs[k + j]? with
    | none => rw [ed] at e1; cases e1
    | some x =>
     rw [ed] at e1
     injection e1 with e1
     subst e1
     have hw : ws[o + (k + j)]? = some w := by rw [← Nat.add_assoc]; exact e2
     exact T_ok (hr (k + j) x w ed hw) (.sub ht hb hC ho hw)
  · rw [if_neg hj] at e2; cases e2
theorem vLd_sim (s : VS P B σb c h σ) {a : V} {w : Value} (r : VR' c σ (Liv B c h) a w) {Kv : KV} {K : VK} (k : ∀ v w, VR' c σ (Liv B c h) v w → Kv v h → K w σ = true) (hv : vLd a h Kv) : rLd w σ K = true := by
 unfold vLd at hv
 split at hv
 · rename_i i o
   cases r with
   | ptr hι =>
    split at hv
    · rename_i vs t e
      obtain ⟨v, ev, hv⟩ := vNth_iff hv
      obtain ⟨b, ws, a1, a2, a3, a4, a5⟩ := s.row i vs t e
      rw [hι] at a1; injection a1 with a1; subst a1
      obtain ⟨u, eu, ru⟩ := a5.get ev
      rw [rLd_h a4 eu]
      exact k v u ru hv
    · cases hv
 · rename_i τ cs o
   cases r with
   | @lptr _ _ b o0 n cc _ sp ht hd =>
    obtain ⟨x, ex, hv⟩ := vNth_iff hv
    have hlt := (List.getElem?_eq_some_iff.1 ex).1
    obtain ⟨ws, e, ck, g1, g2, g3⟩ := list_part ht hd (k := o) (m := 1) (by omega) (by omega)
    have hw : ws[o0 + o]? = some (ws[o0 + o]'(by omega)) := List.getElem?_eq_getElem _
    rw [rLd_h g1 hw]
    refine k _ _ (g3.rd 0 _ _ ?_ ?_) hv
    · rw [Tl_get, List.getElem?_take, if_pos (by omega), List.getElem?_drop, Nat.add_zero, ex]; rfl
    · rw [List.getElem?_take, if_pos (by omega), List.getElem?_drop, Nat.add_zero]; exact hw
 · rename_i i n o
   cases r with
   | gptr hη =>
    split at hv
    · rename_i vs t m e
      obtain ⟨rfl, hv⟩ := hv
      obtain ⟨v, ev, hv⟩ := vNth_iff hv
      obtain ⟨b, ws, olds, sz, a1, a2, a3, a4, a5, a6⟩ := s.gro i vs t m e
      rw [hη] at a1; injection a1 with a1; injection a1 with a1; injection a1 with a1; injection a1 with a1; subst a1
      obtain ⟨u, eu, ru⟩ := a5.get ev
      rw [rLd_h a4 eu]
      exact k v u ru hv
    · cases hv
 · cases hv
theorem vLdN_sim (s : VS P B σb c h σ) {n : Nat} (hn : 0 < n) {a : V} {w : Value} (r : VR' c σ (Liv B c h) a w) {Kv : KV} {K : VK} (k : ∀ v w, VR' c σ (Liv B c h) v w → Kv v h → K w σ = true) (hv : vLdN n a h Kv) : rLdN n w σ K = true := by
 unfold vLdN at hv
 split at hv
 · rename_i i o
   cases r with
   | ptr hι =>
    split at hv
    · rename_i vs t e
      obtain ⟨hl, hv⟩ := hv
      obtain ⟨b, ws, a1, a2, a3, a4, a5⟩ := s.row i vs t e
      rw [hι] at a1; injection a1 with a1; subst a1
      have := a5.len
      rw [rLdN_h a4 (by omega)]
      exact k _ _ (.agg ((a5.drop o).take n).len ((a5.drop o).take n).rd) hv
    · cases hv
 · rename_i τ cs o
   cases r with
   | @lptr _ _ b o0 m cc _ sp ht hd =>
    obtain ⟨hl, hv⟩ := hv
    obtain ⟨ws, e, ck, g1, g2, g3⟩ := list_part ht hd hl hn
    rw [rLdN_h g1 g2]
    exact k _ _ (.agg g3.len g3.rd) hv
 · rename_i i m o
   cases r with
   | gptr hη =>
    split at hv
    · rename_i vs t m' e
      obtain ⟨rfl, hl, hv⟩ := hv
      obtain ⟨b, ws, olds, sz, a1, a2, a3, a4, a5, a6⟩ := s.gro i vs t m' e
      rw [hη] at a1; injection a1 with a1; injection a1 with a1; injection a1 with a1; injection a1 with a1; subst a1
      have := a5.len
      rw [rLdN_h a4 (by omega)]
      exact k _ _ (.agg ((a5.drop o).take n).len ((a5.drop o).take n).rd) hv
    · cases hv
 · cases hv
theorem vCells_sim (s : VS P B σb c h σ) {x : V} {w : Value} (r : VR' c σ C x w) {k : List V → Prop} (hv : vCells x k) : ∃ vs ws, VRL c σ C vs ws ∧ k vs ∧ ws.all oneCell = true ∧ ∀ K : List Value → Bool, cellsOfK w K = K ws := by
 unfold vCells at hv
 split at hv
 · rename_i cs
   obtain ⟨ho, hv⟩ := hv
   cases r with
   | agg la ha =>
    rename_i a'
    have hr : VRL c σ C cs a' := ⟨la, ha⟩
    have := s.ones hr ho
    refine ⟨cs, a', hr, hv, this, fun K => ?_⟩
    show (match allB oneCell a' with | true => K a' | false => false) = _
    rw [allB_eq, this]
 · cases hv
 · rename_i h1 h2
   have ho : oneV x = true := by cases x <;> first | rfl | exact absurd rfl (h1 _) | exact absurd rfl (h2 _)
   have := s.one r ho
   exact ⟨[x], [w], .cons r .nil, hv, by simp [this], fun K => cellsOf_one this K⟩
theorem writeR_sim (s : VS P B σb c h σ) {i o b : Nat} {vs cs : List V} {ws : List Value} {t : TypeId} (e : h i = some (.row vs t)) (hι : c.ι i = some b) (g : VRL c σ (Liv B c h) cs ws) (hl : o + cs.length ≤ vs.length) {Kv : Hp → Prop} {K : St → Bool} (k : ∀ h' σ', Fr' (Liv B c h) σ σ' (Liv B c h') → VS P B σb c h' σ' → Kv h' → K σ' = true) (hv : Kv (upd h i (.row (splice o cs vs) t))) : writeK σ b o ws K = true := by
 obtain ⟨b', us, a1, a2, a3, a4, a5⟩ := s.row i vs t e
 rw [hι] at a1; injection a1 with a1; subst a1
 have l1 := a5.len
 have l2 := g.len
 unfold writeK
 rw [cellsK_h a4]
 show spliceK o ws us (fun vs => setK σ b (.cells vs t .exact) K) = true
 rw [spliceK_eq, if_pos (by omega), setK_eq]
 obtain ⟨s1, s2⟩ := s.setRow e hι (a5.splice g o)
 exact k _ _ s2 s1 hv
theorem writeG_sim (s : VS P B σb c h σ) {i n o b : Nat} {vs cs : List V} {ws : List Value} {t : TypeId} (e : h i = some (.gro vs t n)) (hη : c.η i n = some (.slice (some ⟨b, 0, some 0⟩) n n)) (g : VRL c σ (Liv B c h) cs ws) (hl : o + cs.length ≤ vs.length) {Kv : Hp → Prop} {K : St → Bool} (k : ∀ h' σ', Fr' (Liv B c h) σ σ' (Liv B c h') → VS P B σb c h' σ' → Kv h' → K σ' = true) (hv : Kv (upd h i (.gro (splice o cs vs) t n))) : writeK σ b o ws K = true := by
 obtain ⟨b', us, olds, sz, a1, a2, a3, a4, a5, a6⟩ := s.gro i vs t n e
 rw [hη] at a1
 injection a1 with a1
 injection a1 with a1
 injection a1 with a1
 injection a1 with a1
 subst a1
 have l1 := a5.len
 have l2 := g.len
 have hsl : (splice o cs vs).length = vs.length := by unfold splice; simp; omega
 unfold writeK
 rw [cellsK_h a4]
 show (dropK o us fun l => match asIs ws l with
  | true => K σ
  | false => spliceK o ws us fun vs => killK olds σ.h fun h => putK (.cells vs t (.grown [])) (Nat.succ b) h b fun h => K ⟨h, σ.n⟩) = true
 rw [dropK_eq, if_pos (by omega)]
 cases hs : asIs ws (us.drop o) with
 | true =>
  obtain ⟨_, q⟩ := asIs_true hs
  have hus : splice o ws us = us := by
   apply List.ext_getElem?
   intro j
   rw [splice_get _ _ _ (by omega)]
   split
   · rename_i hj
     have := q (j - o) _ (List.getElem?_eq_getElem (by omega))
     rw [List.getElem?_drop, show o + (j - o) = j by omega] at this
     rw [this, List.getElem?_eq_getElem (by omega)]
   · rfl
  obtain ⟨s1, s2⟩ := s.setGro (vs' := splice o cs vs) (ws' := us) (olds := olds) (ol := olds) (kl := []) (fun _ h => h) (fun _ h => by cases h) e hη a4 hsl (by have := a5.splice g o; rwa [hus] at this) (σ' := σ) rfl (fun j => by
   by_cases hj : j = b
   · rw [if_pos hj, hj, a4]
   · rw [if_neg hj, if_neg (by simp)])
  exact k _ _ s2 s1 hv
 | false =>
  show (spliceK o ws us fun vs => killK olds σ.h fun h => putK (.cells vs t (.grown [])) (Nat.succ b) h b fun h => K ⟨h, σ.n⟩) = true
  rw [spliceK_eq, if_pos (by omega), killK_eq, putK_eq]
  obtain ⟨s1, s2⟩ := s.setGro (vs' := splice o cs vs) (ws' := splice o ws us) (olds := olds) (ol := []) (kl := olds) (fun _ h => by cases h) (fun _ h => h) e hη a4 hsl (a5.splice g o) (σ' := ⟨Tr.putF (AObj.cells (splice o ws us) t (CK.grown [])) b.succ (olds.foldl (fun h i => h.put i AObj.dead) σ.h) b, σ.n⟩) rfl (fun j => by
   show Tr.get (Tr.putF _ (b + 1) _ b) j = _
   rw [get_putF _ _ _ _ _ (Nat.lt_succ_self b), get_kill]; rfl)
  exact k _ _ s2 s1 hv
theorem vSt_sim (s : VS P B σb c h σ) {n : Nat} {a x : V} {w y : Value} (r : VR' c σ (Liv B c h) a w) (q : VR' c σ (Liv B c h) x y) {Kv : Hp → Prop} {K : St → Bool} (k : ∀ h' σ', Fr' (Liv B c h) σ σ' (Liv B c h') → VS P B σb c h' σ' → Kv h' → K σ' = true) (hv : vSt n a x h Kv) : rSt n w y σ K = true := by
 unfold vSt at hv
 split at hv
 · rename_i i o
   cases r with
   | @ptr _ _ b hι =>
    split at hv
    · rename_i vs t e
      obtain ⟨cs, ws, g1, ⟨g2, g3, g4⟩, g5, g6⟩ := vCells_sim s q hv
      have l2 := g1.len
      show cellsOfK y (fun cs => lenK cs fun m => match Nat.beq m n with | true => writeK σ b o cs K | false => false) = true
      rw [g6, lenK_eq, show Nat.beq ws.length n = true by rw [← l2, g2]; exact Nat.beq_refl n]
      exact writeR_sim s e hι g1 (by omega) k g4
    · cases hv
 · rename_i i q' o
   cases r with
   | @gptr _ _ _ b hη =>
    split at hv
    · rename_i vs t m e
      obtain ⟨rfl, hv⟩ := hv
      obtain ⟨cs, ws, g1, ⟨g2, g3, g4⟩, g5, g6⟩ := vCells_sim s q hv
      have l2 := g1.len
      show cellsOfK y (fun cs => lenK cs fun m => match Nat.beq m n with | true => writeK σ b o cs K | false => false) = true
      rw [g6, lenK_eq, show Nat.beq ws.length n = true by rw [← l2, g2]; exact Nat.beq_refl n]
      exact writeG_sim s e hη g1 (by omega) k g4
    · cases hv
 · cases hv
end
end Go.Am

namespace Go.Am
open Go.RowKit Go.MapKept
section
variable {P : Program} {B : Nat → Prop} {σb : St} {c c' d : Cx} {h h' : Hp} {σ σ' : St} {C C' : Nat → Prop}
def KR (P : Program) (B : Nat → Prop) (σb : St) (c : Cx) (h : Hp) (σ : St) (Kv : KV) (K : VK) : Prop :=
 ∀ c' h' σ' v w, c.le c' → Fr' (Liv B c h) σ σ' (Liv B c' h') → VS P B σb c' h' σ' → VR' c' σ' (Liv B c' h') v w → Kv v h' → K w σ' = true
theorem KR.here {Kv : KV} {K : VK} (k : KR P B σb c h σ Kv K) (s : VS P B σb c h σ) {v : V} {w : Value} (r : VR' c σ (Liv B c h) v w) (hk : Kv v h) : K w σ = true := k c h σ v w (.refl c) (.refl _ σ) s r hk
theorem vNew_sim (s : VS P B σb c h σ) {vs : List V} {ws : List Value} {t : TypeId} (hv : VRL c σ (Liv B c h) vs ws) {Kn : Nat → Hp → Prop} (hn : vNew vs t h Kn) :
 ∃ c' h' i, c.le c' ∧ Fr' (Liv B c h) σ (σ.new (.cells ws t .exact)) (Liv B c' h') ∧ VS P B σb c' h' (σ.new (.cells ws t .exact)) ∧ c'.ι i = some σ.n ∧ Kn i h' := by
 obtain ⟨i, e1, e2, e3⟩ := s.fresh
 obtain ⟨a1, a2, a3, a4⟩ := s.newRow e1 e2 e3 t hv
 exact ⟨_, _, i, a2, a3, a1, a4, hn i e1⟩
theorem vAlloc_sim (s : VS P B σb c h σ) {z : List Value} {t : TypeId} {Kv : KV} {K : VK} (k : KR P B σb c h σ Kv K) (hv : vAlloc z t h Kv) : rAlloc z t σ K = true := by
 unfold vAlloc vZero at hv
 split at hv
 · rename_i l e
   obtain ⟨c', h', i, a1, a2, a3, a4, a5⟩ := vNew_sim s (ofVs_ok e) hv
   rw [rAlloc_h]
   exact k c' h' _ _ _ a1 a2 a3 (.ptr a4) a5
 · cases hv
theorem vBox_sim (s : VS P B σb c h σ) {t : TypeId} {x : V} {w : Value} (r : VR' c σ (Liv B c h) x w) {Kv : KV} {K : VK} (k : KR P B σb c h σ Kv K) (hv : vBox t x h Kv) : boxK t w σ K = true := by
 obtain ⟨cs, ws, g1, g2, g3, g4⟩ := vCells_sim s r hv
 obtain ⟨c', h', i, a1, a2, a3, a4, a5⟩ := vNew_sim s g1 g2
 unfold boxK
 rw [g4, newK_eq]
 exact k c' h' _ _ _ a1 a2 a3 (.ptr a4) a5
def PsR (c : Cx) (σ : St) (C : Nat → Prop) : List (Nat × Nat × V) → List (Nat × Nat × Value) → Prop
 | [], [] => True
 | (o, n, v) :: l, (o', n', w) :: m => o = o' ∧ n = n' ∧ VR' c σ C v w ∧ PsR c σ C l m
 | _, _ => False
theorem vFill_sim (s : VS P B σb c h σ) : ∀ {ps : List (Nat × Nat × V)} {ps' : List (Nat × Nat × Value)} {cs : List V} {cs' : List Value} {k : List V → Prop} {k' : List Value → Bool}, PsR c σ C ps ps' → VRL c σ C cs cs' → vFill ps cs k → (∀ cs cs', VRL c σ C cs cs' → k cs → k' cs' = true) → rFill ps' cs' k' = true := by
 intro ps
 induction ps with
 | nil =>
  intro ps' cs cs' k k' hp hc hv hk
  match ps', hp with
  | [], _ => exact hk cs cs' hc hv
 | cons p ps ih =>
  intro ps' cs cs' k k' hp hc hv hk
  obtain ⟨o, n, v⟩ := p
  match ps', hp with
  | (o', n', w) :: ps', hp =>
   obtain ⟨rfl, rfl, r, hp⟩ := hp
   obtain ⟨vs, ws, g1, ⟨g2, g3, g4⟩, g5, g6⟩ := vCells_sim s r hv
   have l1 := g1.len
   have l2 := hc.len
   show cellsOfK w (fun new => lenK new fun m => match Nat.beq m n with | true => spliceK o new cs' (fun cs => rFill ps' cs k') | false => false) = true
   rw [g6, lenK_eq, show Nat.beq ws.length n = true by rw [← l1, g2]; exact Nat.beq_refl n]
   show spliceK o ws cs' (fun cs => rFill ps' cs k') = true
   rw [spliceK_eq, if_pos (by omega)]
   exact ih hp (hc.splice g1 o) g4 hk
theorem partsV_sim {A : VA} {A' : AAct} (a : AR c σ C A A') {place : Nat → Option (Nat × Nat)} : ∀ {ps : List (Nat × Operand)} {k : List (Nat × Nat × V) → Prop} {k' : List (Nat × Nat × Value) → Bool}, (partsV place ps).f A k → (∀ l l', PsR c σ C l l' → k l → k' l' = true) → (partsX place ps).f A' k' = true := by
 intro ps
 induction ps with
 | nil => intro k k' hv hk; exact hk [] [] trivial hv
 | cons p ps ih =>
  intro k k' hv hk
  have e1 : partsV place (p :: ps) = match place p.1 with
   | some (off, size) => ⟨fun A k => (evV p.2).f A fun v => (partsV place ps).f A fun l => k ((off, size, v) :: l)⟩
   | none => ⟨fun _ _ => False⟩ := rfl
  have e2 : partsX place (p :: ps) = match place p.1 with
   | some (off, size) => ⟨fun A k => (evW p.2).f A fun v => (partsX place ps).f A fun l => k ((off, size, v) :: l)⟩
   | none => ⟨fun _ _ => false⟩ := rfl
  rw [e1] at hv
  rw [e2]
  cases hp : place p.1 with
  | none => rw [hp] at hv; cases hv
  | some q =>
   obtain ⟨off, size⟩ := q
   rw [hp] at hv
   simp only at hv ⊢
   rw [evW_eq]
   refine evV_sim a hv fun v w r hv => ?_
   exact ih hv fun l l' hl h => hk ((off, size, v) :: l) ((off, size, w) :: l') ⟨rfl, rfl, r, hl⟩ h
theorem vBuild_sim (s : VS P B σb c h σ) {z : List Value} {ps : List (Nat × Nat × V)} {ps' : List (Nat × Nat × Value)} (hp : PsR c σ C ps ps') {Kv : V → Prop} {K : Value → Bool} (k : ∀ v w, VR' c σ C v w → Kv v → K w = true) (hv : vBuild z ps Kv) : rBuild z ps' K = true := by
 unfold vBuild vZero at hv
 split at hv
 · rename_i l e
   exact vFill_sim s hp (ofVs_ok e) hv fun cs cs' r h => k _ _ (.agg r.len r.rd) h
 · cases hv
theorem vBuildS_sim (s : VS P B σb c h σ) {el n : Nat} {z : List Value} {ps : List (Nat × Nat × V)} {ps' : List (Nat × Nat × Value)} (hp : PsR c σ (Liv B c h) ps ps') {Kv : KV} {K : VK} (k : KR P B σb c h σ Kv K) (hv : vBuildS el n z ps h Kv) : rBuildS el n z ps' σ K = true := by
 unfold vBuildS vZero at hv
 split at hv
 · rename_i l e
   unfold rBuildS
   rw [repK_eq]
   refine vFill_sim s hp ((ofVs_ok e).flatten n) hv fun cs cs' r hv => ?_
   obtain ⟨c', h', i, a1, a2, a3, a4, a5⟩ := vNew_sim s r hv
   rw [newK_eq]
   exact k c' h' _ _ _ a1 a2 a3 (.own a4) a5
 · cases hv
theorem vFld_sim {off : Nat} {x : V} {w : Value} (r : VR' c σ C x w) {Kv : V → Prop} {K : Value → Bool} (k : ∀ v w, VR' c σ C v w → Kv v → K w = true) (hv : vFld off x Kv) : rFld off w K = true := by
 unfold vFld at hv
 split at hv
 · cases r with | ptr e => rw [rFld_p]; exact k _ _ (.ptr e) hv
 · cases r with | lptr ht hd => rw [rFld_p, Nat.add_assoc]; exact k _ _ (.lptr ht hd) hv
 · cases r with | gptr e => rw [rFld_p]; exact k _ _ (.gptr e) hv
 · cases hv
theorem vField_sim {off : Nat} {x : V} {w : Value} (r : VR' c σ C x w) {Kv : V → Prop} {K : Value → Bool} (k : ∀ v w, VR' c σ C v w → Kv v → K w = true) (hv : vField off x Kv) : rField off w K = true := by
 unfold vField at hv
 split at hv
 · cases r with
   | agg la ha =>
    obtain ⟨v, e, hv⟩ := vNth_iff hv
    obtain ⟨u, eu, ru⟩ := VRL.get ⟨la, ha⟩ e
    rw [rField_h eu]
    exact k v u ru hv
 · cases hv
theorem vFieldN_sim {off n : Nat} {x : V} {w : Value} (r : VR' c σ C x w) {Kv : V → Prop} {K : Value → Bool} (k : ∀ v w, VR' c σ C v w → Kv v → K w = true) (hv : vFieldN off n x Kv) : rFieldN off n w K = true := by
 unfold vFieldN at hv
 split at hv
 · cases r with
   | agg la ha =>
    obtain ⟨hl, hv⟩ := hv
    have hr : VRL c σ C _ _ := ⟨la, ha⟩
    rw [rFieldN_h (by omega)]
    exact k _ _ (.agg ((hr.drop off).take n).len ((hr.drop off).take n).rd) hv
 · cases hv
theorem vIdx_sim (s : VS P B σb c h σ) {size : Nat} {x ix : V} {w iw : Value} (r : VR' c σ C x w) (ri : VR' c σ C ix iw) {Kv : V → Prop} {K : Value → Bool} (k : ∀ v w, VR' c σ C v w → Kv v → K w = true) (hv : vIdx size x ix Kv) : rIdx size w iw K = true := by
 unfold vIdx at hv
 split at hv
 · rename_i j i
   cases ri
   split at hv
   · obtain ⟨hi, hv⟩ := hv
     cases r with
     | list ht hd =>
      cases hd with
      | nil => omega
      | emp => omega
      | @row b0 o0 _ cc sp us e0 ck0 _ hsp hb hC ho hl hn hr =>
       have hlt : Nat.blt i _ = true := Nat.ble_eq_true_of_le hi
       have := k _ _ (.lptr ht (.row hsp hb hC ho hl hn hr)) hv
       match sp, hsp with
       | none, _ => show (match Nat.blt i _ with | true => _ | false => false) = true; rw [hlt, forceN_eq]; exact this
       | some 0, _ => show (match Nat.blt i _ with | true => _ | false => false) = true; rw [hlt, forceN_eq]; exact this
   · obtain ⟨hi, hv⟩ := hv
     cases r with
     | own e =>
      have hlt : Nat.blt i _ = true := Nat.ble_eq_true_of_le hi
      show (match Nat.blt i _ with | true => _ | false => false) = true
      rw [hlt, forceN_eq]
      exact k _ _ (.ptr e) hv
   · obtain ⟨hi, hv⟩ := hv
     cases r with
     | acc e =>
      obtain ⟨b, rfl⟩ := s.ηs _ _ _ e
      have hlt : Nat.blt i _ = true := Nat.ble_eq_true_of_le hi
      show (match Nat.blt i _ with | true => _ | false => false) = true
      rw [hlt, forceN_eq, Nat.zero_add]
      exact k _ _ (.gptr e) hv
   · obtain ⟨hi, hv⟩ := hv
     cases r with
     | asl e =>
      have hlt : Nat.blt i _ = true := Nat.ble_eq_true_of_le hi
      show (match Nat.blt i _ with | true => _ | false => false) = true
      rw [hlt, forceN_eq]
      exact k _ _ (.gptr e) hv
   · cases hv
 · cases hv
theorem vStrAt_sim {x ix : V} {w iw : Value} (r : VR' c σ C x w) (ri : VR' c σ C ix iw) {Kv : V → Prop} {K : Value → Bool} (k : ∀ v w, VR' c σ C v w → Kv v → K w = true) (hv : vStrAt x ix Kv) : rStrAt w iw K = true := by
 unfold vStrAt at hv
 split at hv
 · cases ri
   split at hv
   · rename_i l
     cases r
     obtain ⟨b, e, hv⟩ := vNth_iff hv
     show nthK l _ (fun b : UInt8 => forceN b.toNat fun n => K (.int .u8 (.ofNat n))) = true
     rw [nthK_h e, forceN_eq]
     exact k _ _ .int hv
   · cases hv
 · cases hv
theorem vExt_sim {i : Nat} {x : V} {w : Value} (r : VR' c σ C x w) {Kv : V → Prop} {K : Value → Bool} (k : ∀ v w, VR' c σ C v w → Kv v → K w = true) (hv : vExt i x Kv) : rExt i w K = true := by
 unfold vExt at hv
 split at hv
 · cases r with
   | tuple la ha =>
    obtain ⟨v, e, hv⟩ := vNth_iff hv
    obtain ⟨u, eu, ru⟩ := VRL.get ⟨la, ha⟩ e
    rw [rExt_t, nthK_h eu]
    exact k v u ru hv
 · cases hv
theorem vInt_sim {kd : IntKind} {x : V} {w : Value} (r : VR' c σ C x w) {Kv : V → Prop} {K : Value → Bool} (k : ∀ v w, VR' c σ C v w → Kv v → K w = true) (hv : vInt kd x Kv) : rInt kd w K = true := by
 unfold vInt at hv
 split at hv
 · cases r; rw [rInt_i]; exact k _ _ .int hv
 · cases hv
theorem vLenS_sim (s : VS P B σb c h σ) {x : V} {w : Value} (r : VR' c σ C x w) {Kv : V → Prop} {K : Value → Bool} (k : ∀ v w, VR' c σ C v w → Kv v → K w = true) (hv : vLenS x Kv) : rLenS w K = true := by
 unfold vLenS at hv
 split at hv
 · cases r with
   | list ht hd => cases hd <;> exact k _ _ .int hv
 · cases r; exact k _ _ .int hv
 · cases r with
   | acc e => obtain ⟨b, rfl⟩ := s.ηs _ _ _ e; exact k _ _ .int hv
 · cases r; exact k _ _ .int hv
 · cases r; exact k _ _ .int hv
 · cases r; exact k _ _ .int hv
 · cases hv
theorem vLenT_sim {x : V} {w : Value} (r : VR' c σ C x w) {Kv : V → Prop} {K : Value → Bool} (k : ∀ v w, VR' c σ C v w → Kv v → K w = true) (hv : vLenT x Kv) : rLenT w K = true := by
 unfold vLenT at hv
 split at hv
 · cases r; rw [rLenT_s]; exact k _ _ .int hv
 · cases hv
/-! appending -/
theorem Src.of_row {i o n cc size : Nat} {sp : Option Nat} (hsp : spOk sp = true) {vs : List Value} {e : TypeId} {ck : CK} (ho : σ.obj i = some (.cells vs e ck)) (hn : o + n * size ≤ vs.length) (h1 : ∀ v ∈ (vs.drop o).take (n * size), oneCell v = true) : Src σ size (.slice (some ⟨i, o, sp⟩) n cc) n ((vs.drop o).take (n * size)) := by
 refine ⟨fun k => rfl, fun k hz => ?_, h1⟩
 obtain ⟨m, rfl⟩ := Nat.exists_eq_succ_of_ne_zero hz
 match sp, hsp with
 | none, _ => show readK σ i o ((m + 1) * size) k = _; rw [readK_h ho hn]
 | some 0, _ => show readK σ i o ((m + 1) * size) k = _; rw [readK_h ho hn]
theorem vSrc_sim (s : VS P B σb c h σ) {size : Nat} (hs0 : 0 < size) {x : V} {w : Value} (r : VR' c σ (Liv B c h) x w) {kv : Nat → List V → Prop} (hv : vSrc size x h kv) : ∃ n vs ws, kv n vs ∧ VRL c σ (Liv B c h) vs ws ∧ vs.length = n * size ∧ (∀ k, lenVK w k = k n) ∧ (vs.all oneV = true → Src σ size w n ws) := by
 unfold vSrc at hv
 split at hv
 · cases r
   exact ⟨0, [], [], hv, .nil, by simp, fun k => rfl, fun _ => ⟨fun k => rfl, fun k hz => absurd rfl hz, fun v hv => by cases hv⟩⟩
 · rename_i τ cs n
   obtain ⟨hl, hv⟩ := hv
   cases r with
   | list ht hd =>
    have hlen : ∀ k, lenVK w k = k n := fun k => by cases hd <;> rfl
    rcases Nat.eq_zero_or_pos n with hz | hz
    · subst hz
      refine ⟨0, _, [], hv, ?_, by simp [Tl_len], hlen, fun _ => ⟨hlen, fun k hz => absurd rfl hz, fun v hv => by cases hv⟩⟩
      rw [Nat.zero_mul, List.take_zero]; exact .nil
    · cases hd with
      | nil => omega
      | emp => omega
      | @row b o _ cc sp vs e ck _ hsp hb hC ho hl2 hn hr =>
       have hpos : 0 < n * size := Nat.mul_pos hz hs0
       obtain ⟨us, e', ck', g1, g2, g3⟩ := list_part ht (.row hsp hb hC ho hl2 hn hr) (k := 0) (m := n * size) (by omega) hpos
       rw [ho] at g1
       injection g1 with g1
       injection g1 with g1
       subst g1
       rw [List.drop_zero, Nat.add_zero] at g3
       refine ⟨n, _, _, hv, g3, by rw [Tl_len, List.length_take]; omega, hlen, fun h1 => Src.of_row hsp ho (by omega) fun v hv => ?_⟩
       exact List.all_eq_true.1 (s.ones g3 h1) v hv
 · rename_i i o n cc
   cases r with
   | own hι =>
    split at hv
    · rename_i vs t e
      obtain ⟨hl, hv⟩ := hv
      obtain ⟨b, ws, a1, a2, a3, a4, a5⟩ := s.row i vs t e
      rw [hι] at a1; injection a1 with a1; subst a1
      have l := a5.len
      have hr := (a5.drop o).take (n * size)
      refine ⟨n, _, _, hv, hr, by rw [List.length_take, List.length_drop]; omega, fun k => rfl, fun h1 => Src.row a4 (by omega) fun v hv => List.all_eq_true.1 (s.ones hr h1) v hv⟩
    · cases hv
 · rename_i i n
   cases r with
   | acc hη =>
    split at hv
    · rename_i vs t m e
      obtain ⟨rfl, hl, hv⟩ := hv
      obtain ⟨b, ws, olds, sz, a1, a2, a3, a4, a5, a6⟩ := s.gro i vs t m e
      rw [hη] at a1; injection a1 with a1; subst a1
      have l := a5.len
      refine ⟨m, vs, ws, hv, a5, hl, fun k => rfl, fun h1 => ?_⟩
      have := Src.of_row (n := m) (cc := m) (size := size) (o := 0) (sp := some 0) rfl a4 (by omega) (fun v hv => List.all_eq_true.1 (s.ones a5 h1) v (by rw [List.drop_zero] at hv; exact List.mem_of_mem_take hv))
      rwa [List.drop_zero, List.take_of_length_le (by omega)] at this
    · cases hv
 · rename_i i n o q cc
   cases r with
   | asl hη =>
    split at hv
    · rename_i vs t m e
      obtain ⟨rfl, hl, hv⟩ := hv
      obtain ⟨b, ws, olds, sz, a1, a2, a3, a4, a5, a6⟩ := s.gro i vs t m e
      rw [hη] at a1
      injection a1 with a1
      injection a1 with a1
      injection a1 with a1
      injection a1 with a1
      subst a1
      have l := a5.len
      have hr := (a5.drop o).take (q * size)
      refine ⟨q, _, _, hv, hr, by rw [List.length_take, List.length_drop]; omega, fun k => rfl, fun h1 => Src.of_row (n := q) (cc := cc) (size := size) (o := o) (sp := some 0) rfl a4 (by omega) fun v hv => List.all_eq_true.1 (s.ones hr h1) v hv⟩
    · cases hv
 · cases r
   exact ⟨0, [], [], hv, .nil, by simp, fun k => rfl, fun _ => ⟨fun k => rfl, fun k hz => absurd rfl hz, fun v hv => by cases hv⟩⟩
 · rename_i l
   cases r
   obtain ⟨rfl, hv⟩ := hv
   have hx := Src.text σ l
   refine ⟨l.length, _, bytesV l, hv, ⟨by simp [bytesV], fun k v w e1 e2 => ?_⟩, by simp, hx.len, fun _ => hx⟩
   unfold bytesV at e2
   rw [List.getElem?_map] at e1 e2
   cases e : l[k]? with
   | none => rw [e] at e1; cases e1
   | some b => rw [e] at e1 e2; injection e1 with e1; injection e2 with e2; subst e1 e2; exact .int
 · cases hv
theorem vApp_sim (s : VS P B σb c h σ) {el size bytes : Nat} (hs0 : 0 < size) (hsz : sizeT P el = some size) {y x : V} {w u : Value} (r : VR' c σ (Liv B c h) y w) (q : VR' c σ (Liv B c h) x u) {Kv : KV} {K : VK} (k : KR P B σb c h σ Kv K) (hv : vApp el size bytes y x h Kv) : rApp P el size bytes w u σ K = true := by
 obtain ⟨m, vs, ws, hv, hr, hl, hlen, hsrc⟩ := vSrc_sim s hs0 q hv
 cases m with
 | zero =>
  have hap : ∀ b n cc, w = .slice b n cc → n ≤ cc → Kv y h → rApp P el size bytes w u σ K = true := fun b n cc e hn hk => by
   have hw := k.here s r hk
   subst e
   show lenVK u _ = true
   rw [hlen]
   show (match Nat.ble n cc with | true => K (.slice b n cc) σ | false => false) = true
   rw [show Nat.ble n cc = true from Nat.ble_eq_true_of_le hn]
   exact hw
  simp only at hv
  split at hv
  · cases r; exact hap _ _ _ rfl (Nat.le_refl _) hv
  · cases r with
    | acc e => obtain ⟨b, rfl⟩ := s.ηs _ _ _ e; exact hap _ _ _ rfl (Nat.le_refl _) hv
  · cases r; exact hap _ _ _ rfl hv.1 hv.2
  · cases r with
    | list ht hd =>
     cases hd with
     | nil => exact hap _ _ _ rfl (Nat.le_refl _) hv
     | emp => exact hap _ _ _ rfl (Nat.le_refl _) hv
     | row _ _ _ _ _ hn _ => exact hap _ _ _ rfl hn hv
  · cases hv
 | succ m =>
  obtain ⟨h1, hv⟩ := hv
  have hx := hsrc h1
  split at hv
  · obtain ⟨hb, hv⟩ := hv
    cases r
    rw [rApp_nil hx (by omega) hb]
    obtain ⟨i, e1, e2, e3⟩ := s.fresh
    obtain ⟨a1, a2, a3, a4⟩ := s.newGro e1 e2 e3 hsz hl hr
    exact k _ _ _ _ _ a2 a3 a1 (.acc a4) (hv i e1)
  · rename_i i n hv0
    cases ei : h i with
    | none => simp only [ei] at hv
    | some ob =>
    cases ob with
    | row us t => simp only [ei] at hv
    | map es => simp only [ei] at hv
    | loop => simp only [ei] at hv
    | gro us t n' =>
     simp only [ei] at hv
     obtain ⟨hn', ht', hul, hb, hv⟩ := hv
     subst hn' ht'
     have e := ei
     obtain ⟨b, ws2, olds, sz, a1, a2, a3, a4, a5, a6, a7, a8⟩ := s.gro i us _ _ e
     cases r with
     | acc hη =>
      rw [a1] at hη; injection hη with hη; subst hη
      have l2 := a5.len
      rw [rApp_row hx (by omega) hb a4 (by omega) hsz]
      obtain ⟨b1, b2, b3, b4⟩ := s.moreGro e a1 a4 hsz hl (by omega) hul a5 hr
      exact k _ _ _ _ _ b2 b3 b1 (.acc b4) hv
  · rename_i i o n cc hv0
    cases ei : h i with
    | none => simp only [ei] at hv
    | some ob =>
    cases ob with
    | gro us t n' => simp only [ei] at hv
    | map es => simp only [ei] at hv
    | loop => simp only [ei] at hv
    | row us t =>
     simp only [ei] at hv
     obtain ⟨hb, hlen0, hin, hout⟩ := hv
     obtain ⟨b, ws2, a1, a2, a3, a4, a5⟩ := s.row i us t ei
     have l2 := a5.len
     cases r with
     | own hι =>
      rw [a1] at hι; injection hι with hι; subst hι
      show lenVK u _ = true
      rw [hx.len]
      show firstK σ size (m + 1) u _ = true
      rw [hx.first _ (by omega)]
      simp only [forceN_eq]
      rw [show Nat.ble ((n + (m + 1)) * (bytes + 1)) 1099511627776 = true from Nat.ble_eq_true_of_le hb]
      by_cases hc : n + (m + 1) ≤ cc
      · rw [show Nat.ble (n + (m + 1)) cc = true from Nat.ble_eq_true_of_le hc]
        obtain ⟨hfit, hv⟩ := hin hc
        have hone : allB oneCell ws = true := by rw [allB_eq]; exact s.ones hr h1
        show inRowK size ws (some ⟨b, o, none⟩) n cc (n + (m + 1)) σ K = true
        unfold inRowK
        simp only [show spOk none = true from rfl, hone]
        show forceN (o + n * size) (fun at_ => writeK σ b at_ ws fun σ => K (.slice (some ⟨b, o, none⟩) (n + (m + 1)) cc) σ) = true
        rw [forceN_eq]
        show writeK σ b (o + n * size) ws _ = true
        unfold writeK
        rw [cellsK_h a4]
        show spliceK (o + n * size) ws ws2 (fun vs => setK σ b (.cells vs t .exact) fun σ => K (.slice (some ⟨b, o, none⟩) (n + (m + 1)) cc) σ) = true
        have l3 := hr.len
        rw [spliceK_eq, if_pos (by omega), setK_eq]
        obtain ⟨s1, s2⟩ := s.setRow ei a1 (a5.splice hr (o + n * size))
        exact k c _ _ _ _ (.refl c) s2 s1 (.own a1) hv
      · have : Nat.ble (n + (m + 1)) cc = false := by
         cases hq : Nat.ble (n + (m + 1)) cc with
         | false => rfl
         | true => exact absurd (Nat.le_of_ble_eq_true hq) hc
        rw [this]
        have hv := hout (by omega)
        show newRowK P el size ws (some ⟨b, o, none⟩) n (n + (m + 1)) σ K = true
        show readK σ b o (n * size) (fun old => growK el old ws (n + (m + 1)) none σ K) = true
        rw [readK_h a4 (by omega)]
        unfold growK
        rw [appK_eq]
        simp only [newK_eq]
        obtain ⟨j, e1, e2, e3⟩ := s.fresh
        have hr2 := ((a5.drop o).take (n * size)).app hr
        have hn2 : ((us.drop o).take (n * size) ++ vs).length = (n + (m + 1)) * size := by
         rw [List.length_append, List.length_take, List.length_drop, hl, Nat.add_mul n, Nat.min_eq_left (by omega)]
        obtain ⟨b1, b2, b3, b4⟩ := s.newGro e1 e2 e3 hsz hn2 hr2
        exact k _ _ _ _ _ b2 b3 b1 (.acc b4) (hv j e1)
  · cases hv
theorem vNil_sim {x : V} {w : Value} (r : VR' c σ C x w) {Kv : V → Prop} {K : Value → Bool} (k : ∀ v w, VR' c σ C v w → Kv v → K w = true) (hv : vNil P x Kv) : rNil P w K = true := by
 unfold vNil at hv
 split at hv
 · cases r with | ptr e => exact k _ _ (.ptr e) hv
 · cases r with | lptr ht hd => exact k _ _ (.lptr ht hd) hv
 · cases r with | gptr e => exact k _ _ (.gptr e) hv
 · cases r with | func a b e f => exact k _ _ (.func a b e f) hv
 · cases r with | iface e => exact k _ _ (.iface e) hv
 · split at hv
   · rename_i s v t w'
     split at hv
     · rename_i g hg
       cases r with
       | meth r =>
        cases r with
        | iface r =>
         show (match methT P t s with | some _ => _ | none => false) = true
         rw [hg]
         exact k _ _ (.meth (.iface r)) hv
     · cases hv
   · cases hv
 · cases hv
/-! numbers -/
theorem beqI (x y : Int) : (x == y) = decide (x = y) := by
 by_cases e : x = y
 · subst e; simp
 · rw [decide_eq_false e]; simpa using e
inductive NR : NK → Bool → Value → Prop
 | p0 {a : Addr} : NR .ptr false (.pointer (some a))
 | p1 : NR .ptr true (.pointer none)
 | s0 {a : Addr} {n m : Nat} : NR .slice false (.slice (some a) n m)
 | s1 {n m : Nat} : NR .slice true (.slice none n m)
 | m0 {b : Nat} : NR .map false (.map (some b))
 | m1 : NR .map true (.map none)
 | f0 {f : Fn} {a b : Array Value} : NR .func false (.func f a b)
 | f1 : NR .func true .nilFunc
 | i0 {t : TypeId} {v : Value} : NR .iface false (.iface t v)
 | i1 : NR .iface true .nilIface
theorem nilKind_nr (hη : ∀ i n w, c.η i n = some w → ∃ b, w = .slice (some ⟨b, 0, some 0⟩) n n) {a : V} {u : Value} (r : VR' c σ C a u) {kk : NK} {x : Bool} (hk : nilKind a = some (kk, x)) : NR kk x u := by
 cases r with
 | @list τ cs n w ht hd =>
  cases cs with
  | nil => cases hk
  | cons d cs =>
   injection hk with hk
   injection hk with h1 h2
   subst h1 h2
   cases hd with
   | row => exact .s0
 | acc e => obtain ⟨b, rfl⟩ := hη _ _ _ e; injection hk with hk; injection hk with h1 h2; subst h1 h2; exact .s0
 | _ => first
  | (cases hk; done)
  | (injection hk with hk; injection hk with h1 h2; subst h1 h2; constructor)
theorem nr_eq {t : TypeId} {kk : NK} {x y : Bool} {u w : Value} (hx : NR kk x u) (hy : NR kk y w) (ho : x = true ∨ y = true) (hi : x = true → y = true → kk ≠ .iface) (ht : kindT P t = some kk) (k : Bool → Bool) : equalK P t u w k = k (x && y) := by
 unfold kindT at ht
 cases hx <;> cases hy <;> first | (rcases ho with ho | ho <;> cases ho; done) | (exact absurd rfl (hi rfl rfl)) | (unfold equalK; split at ht <;> first | (rename_i hu; simp only [hu]; rfl) | (cases ht; done))
theorem vNilEq_sim {op : BinOp} {t : TypeId} {a b : V} {u w : Value} (hη : ∀ i n w, c.η i n = some w → ∃ b, w = .slice (some ⟨b, 0, some 0⟩) n n) (r : VR' c σ C a u) (q : VR' c σ C b w) {Kv : V → Prop} {K : Value → Bool} (k : ∀ v w, VR' c σ C v w → Kv v → K w = true) (hv : vNilEq P op t a b Kv) : binK P op t u w K = true := by
 unfold vNilEq at hv
 split at hv
 · rename_i ka x ha
   split at hv
   · rename_i kb y hb
     obtain ⟨rfl, ht, hxy, hi, hv⟩ := hv
     have hx := nilKind_nr hη r ha
     have hy := nilKind_nr hη q hb
     have e := nr_eq hx hy hxy hi ht
     cases op <;> first | (cases hv; done) | skip
     · have : binK P .eql t u w K = equalK P t u w fun e => boolK e K := by cases hx <;> cases hy <;> rfl
       rw [this, e, boolK_eq]
       exact k _ _ .bool hv
     · have : binK P .neq t u w K = equalK P t u w fun e => boolK (!e) K := by cases hx <;> cases hy <;> rfl
       rw [this, e, boolK_eq]
       exact k _ _ .bool hv
   · cases hv
 · cases hv
theorem vBin_sim {op : BinOp} {t : TypeId} {a b : V} {u w : Value} (hη : ∀ i n w, c.η i n = some w → ∃ b, w = .slice (some ⟨b, 0, some 0⟩) n n) (r : VR' c σ C a u) (q : VR' c σ C b w) {Kv : V → Prop} {K : Value → Bool} (k : ∀ v w, VR' c σ C v w → Kv v → K w = true) (hv : vBin P op t a b Kv) : rBin P op t u w K = true := by
 rw [rBin_eq]
 unfold vBin at hv
 split at hv
 · rename_i j x
   split at hv
   · rename_i k' y
     cases r
     cases q
     cases hs : isShift op with
     | true =>
      rw [hs] at hv
      obtain ⟨hy, hv⟩ := hv
      have hlt : ltI y 0 = false := by rw [ltI_eq]; exact decide_eq_false (by omega)
      cases op <;> first | cases hs | skip
      · show shiftK .shl j x y K = true
        unfold shiftK
        rw [hlt]
        show intK j (x * 2 ^ (min y.toNat j.bits)) K = true
        unfold intK
        rw [forceI_eq]
        exact k _ _ .int hv
      · show shiftK .shr j x y K = true
        unfold shiftK
        rw [hlt]
        show forceI (x.fdiv (2 ^ (min y.toNat j.bits))) (fun n => K (.int j n)) = true
        rw [forceI_eq]
        exact k _ _ .int hv
     | false =>
      rw [hs] at hv
      obtain ⟨rfl, hv⟩ := hv
      have hg : binK P op t (.int j x) (.int j y) K = intBinK op j x y K := by
       rw [← rBin_eq]; exact rBin_i _ _ _ _ _ _ (by rintro rfl; cases hs) (by rintro rfl; cases hs)
      rw [hg]
      have hint : ∀ n, Kv (.int j (wrapI j n)) → intK j n K = true := fun n hv => by
       unfold intK; rw [forceI_eq]; exact k _ _ .int hv
      have h0 : ∀ y : Int, y ≠ 0 → eqI y 0 = false := fun y hy => by rw [eqI_eq]; simpa using hy
      cases op <;> first
       | exact hint _ hv
       | (obtain ⟨hy, hv⟩ := hv; show (match eqI y 0 with | true => false | false => _) = true; rw [h0 y hy]; first | exact hint _ hv | (show forceI _ _ = true; rw [forceI_eq]; exact k _ _ .int hv))
       | (show forceI (j.wrap _) (fun n => K (.int j n)) = true; rw [forceI_eq]; exact k _ _ .int hv)
       | (show boolK _ K = true; rw [boolK_eq]; simp only [eqI_eq, ltI_eq, beqI]; first | exact k _ _ .bool hv | (have e1 : (!decide (y < x)) = decide (x ≤ y) := (by by_cases h : y < x; rw [decide_eq_true h, decide_eq_false (show ¬ x ≤ y by omega)]; rfl; rw [decide_eq_false h, decide_eq_true (show x ≤ y by omega)]; rfl); rw [e1]; exact k _ _ .bool hv) | (have e1 : (!decide (x < y)) = decide (y ≤ x) := (by by_cases h : x < y; rw [decide_eq_true h, decide_eq_false (show ¬ y ≤ x by omega)]; rfl; rw [decide_eq_false h, decide_eq_true (show y ≤ x by omega)]; rfl); rw [e1]; exact k _ _ .bool hv))
       | cases hv
       | cases hs
   · cases hv
 · rename_i x
   split at hv
   · rename_i y
     cases r
     cases q
     have e8 : eqL8 x y = decide (x = y) := by
      rw [eqL8_eq]
      by_cases e : x = y
      · subst e; simp
      · rw [decide_eq_false e]; simpa using e
     cases op <;> first
      | (show boolK _ K = true; rw [boolK_eq]; show K (.bool _) = true; first | (rw [e8]; exact k _ _ .bool hv) | (rw [ltL8_eq]; exact k _ _ .bool hv))
      | (exact absurd hv id)
      | (obtain ⟨hl, hv⟩ := hv
         show (lenK x fun n => lenK y fun m => match Nat.blt (n + m) 9223372036854775808 with | true => appK x y fun l => K (.string ⟨⟨l⟩⟩) | false => false) = true
         rw [lenK_eq, lenK_eq, show Nat.blt (x.length + y.length) 9223372036854775808 = true from Nat.ble_eq_true_of_le hl]
         exact (appK_eq x y _).trans (k _ _ .str hv))
   · cases hv
 · rename_i x
   split at hv
   · rename_i y
     cases r
     cases q
     obtain ⟨ht, hv⟩ := hv
     unfold isBoolT at ht
     split at ht
     · rename_i hu
       have hb : (x == y) = decide (x = y) := by cases x <;> cases y <;> rfl
       cases op <;> first | cases hv | skip
       all_goals
        show equalK P t (.bool x) (.bool y) _ = true
        unfold equalK
        simp only [hu, forceB_eq, boolK_eq, hb]
        exact k _ _ .bool hv
     · cases ht
   · cases hv
 · exact vNilEq_sim hη r q k hv
theorem vUn_sim {op : UnOp} {a : V} {u : Value} (r : VR' c σ C a u) {Kv : V → Prop} {K : Value → Bool} (k : ∀ v w, VR' c σ C v w → Kv v → K w = true) (hv : vUn op a Kv) : unK op u K = true := by
 unfold vUn at hv
 split at hv
 · split at hv
   · cases r; rw [unK_not]; exact k _ _ .bool hv
   · cases hv
 · split at hv
   · cases r
     show intK _ _ K = true
     unfold intK
     rw [forceI_eq]; exact k _ _ .int hv
   · cases hv
 · split at hv
   · cases r
     unfold unK
     simp only
     rw [forceI_eq]; exact k _ _ .int hv
   · cases hv
 · cases hv
theorem vMin_sim {P : Program} {big : Bool} {ts : List TypeId} {a b : V} {w u : Value} (r : VR' c σ C a w) (q : VR' c σ C b u) {Kv : V → Prop} {K : VK} (k : ∀ v w, VR' c σ C v w → Kv v → K w σ = true) (hv : vMin big a b Kv) : builtinK P (match big with | true => .max | false => .min) ts [w, u] σ K = true := by
 cases r <;> try (cases hv; done)
 cases q <;> try (cases hv; done)
 rename_i j x j' y
 have hw := k _ _ .int hv
 cases big with
 | true =>
  show minsK true [.int j' y] j x (fun v => K v σ) = true
  show bcase (ltI x y) (K (.int j y) σ) (K (.int j x) σ) = true
  rw [ltI_eq]
  simp only [Int.max_def] at hw
  by_cases h : x < y
  · rw [if_pos (by omega)] at hw; simp only [decide_eq_true h]; exact hw
  · by_cases h2 : x ≤ y
    · rw [if_pos h2] at hw
      have : x = y := by omega
      subst this
      simp only [decide_eq_false h]; exact hw
    · rw [if_neg h2] at hw
      simp only [decide_eq_false h]; exact hw
 | false =>
  show minsK false [.int j' y] j x (fun v => K v σ) = true
  show bcase (ltI y x) (K (.int j y) σ) (K (.int j x) σ) = true
  rw [ltI_eq]
  simp only [Int.min_def] at hw
  by_cases h : y < x
  · rw [if_neg (by omega)] at hw; simp only [decide_eq_true h]; exact hw
  · rw [if_pos (by omega)] at hw; simp only [decide_eq_false h]; exact hw
inductive OR' (c : Cx) (σ : St) (C : Nat → Prop) : Option V → Option Value → Prop
 | none : OR' c σ C none none
 | some {v : V} {w : Value} (h : VR' c σ C v w) : OR' c σ C (some v) (some w)
theorem vBnd_sim {d : Nat} {o : Option V} {o' : Option Value} (r : OR' c σ C o o') {k : Nat → Prop} {K : Nat → Bool} (hk : ∀ n, k n → K n = true) (hv : vBnd d o k) : bndK d o' K = true := by
 cases r with
 | none => exact hk _ hv
 | some r =>
  cases r <;> try (cases hv; done)
  rename_i j z
  cases z with
  | ofNat n => exact hk n hv
  | negSucc n => cases hv
theorem vBnds_sim {len cap : Nat} {lo hi mx : Option V} {lo' hi' mx' : Option Value} (r1 : OR' c σ C lo lo') (r2 : OR' c σ C hi hi') (r3 : OR' c σ C mx mx') {k : Nat → Nat → Nat → Prop} {K : Nat → Nat → Nat → Bool} (hk : ∀ l h m, l ≤ h → h ≤ m → m ≤ cap → k l h m → K l h m = true) (hv : vBnds len cap lo hi mx k) : boundsK len cap lo' hi' mx' K = true := by
 refine vBnd_sim r3 (fun m hv => vBnd_sim r2 (fun h hv => vBnd_sim r1 (fun l hv => ?_) hv) hv) hv
 obtain ⟨h1, h2, h3, hv⟩ := hv
 simp only [Nat.ble_eq_true_of_le h1, Nat.ble_eq_true_of_le h2, Nat.ble_eq_true_of_le h3]
 exact hk l h m h1 h2 h3 hv
theorem vSlS_sim (s : VS P B σb c h σ) {t el : TypeId} {size : Nat} (he : isSlice P t = some el) (hs : sizeT P el = some size) {x : V} {w : Value} (r : VR' c σ C x w) {lo hi mx : Option V} {lo' hi' mx' : Option Value} (r1 : OR' c σ C lo lo') (r2 : OR' c σ C hi hi') (r3 : OR' c σ C mx mx') {k : V → Prop} {K : Value → Bool} (hk : ∀ v w, VR' c σ C v w → k v → K w = true) (hv : vSlS el size x lo hi mx h k) : sliceK P t w lo' hi' mx' σ K = true := by
 have gro : ∀ {i n b o q cc : Nat}, c.η i n = some (.slice (some ⟨b, 0, some 0⟩) n n) → (match h i with
  | some (.gro _ t n') => n' = n ∧ t = el ∧ vBnds q cc lo hi none fun l h m => (l < m → k (.asl i n (o + l * size) (h - l) (m - l))) ∧ (m = l → k (.emp i n))
  | _ => False) → sliceK P t (.slice (some ⟨b, o, some 0⟩) q cc) lo' hi' none σ K = true := by
  intro i n b o q cc e hq
  split at hq
  · rename_i vs t' n' ei
    obtain ⟨rfl, rfl, hq⟩ := hq
    obtain ⟨b', us, olds, sz, a1, a2, a3, a4, a5, a6, a7⟩ := s.gro i vs t' n' ei
    rw [e] at a1
    injection a1 with a1
    injection a1 with a1
    injection a1 with a1
    injection a1 with a1
    subst a1
    unfold sliceK
    simp only [he, hs]
    refine vBnds_sim r1 r2 .none (fun l h m h1 h2 h3 hz => ?_) hq
    obtain ⟨hz, hz0⟩ := hz
    simp only [forceN_eq]
    cases hw : Nat.beq m l with
    | true => exact hk _ _ (.empt e) (hz0 (Nat.eq_of_beq_eq_true hw))
    | false =>
     have h4 := Nat.ne_of_beq_eq_false hw
     simp only
     rw [cellsK_h a4]
     simp only [hs]
     rw [show Nat.beq size size = true from Nat.beq_refl size]
     exact hk _ _ (.asl e) (hz (by omega))
  · cases hq
 cases r <;> try (cases hv; done)
 · unfold sliceK
   simp only [he, hs]
   refine vBnds_sim r1 r2 r3 (fun l h m h1 h2 h3 hv => ?_) hv
   simp only [forceN_eq]
   have : h - l = 0 ∧ m - l = 0 := by omega
   rw [this.1, this.2]
   exact hk _ _ .nil hv
 · rename_i i n e
   obtain ⟨b, rfl⟩ := s.ηs _ _ _ e
   cases r3 with
   | none => exact gro e hv
   | some _ => cases hv
 · rename_i i n o q cc b e
   cases r3 with
   | none => exact gro e hv
   | some _ => cases hv
 · rename_i i o n m b e
   unfold sliceK
   simp only [he, hs]
   refine vBnds_sim r1 r2 r3 (fun l h m h1 h2 h3 hv => ?_) hv
   simp only [forceN_eq]
   have hw : K (.slice (some ⟨b, if m = l then o else o + l * size, none⟩) (h - l) (m - l)) = true := hk _ _ (.own e) hv
   cases hq : Nat.beq m l with
   | true => rw [if_pos (Nat.eq_of_beq_eq_true hq)] at hw; exact hw
   | false => rw [if_neg (Nat.ne_of_beq_eq_false hq)] at hw; exact hw
theorem vClear_sim (s : VS P B σb c h σ) {t el : TypeId} {zero : List Value} {m : Nat} (he : isSlice P t = some el) (hs : sizeT P el = some (m + 1)) (hz : zeroT P el = some zero) (hl : Nat.beq zero.length (m + 1) = true) (hf : allB flat0 zero = true) {x : V} {w : Value} (r : VR' c σ (Liv B c h) x w) {Kv : Hp → Prop} {K : VK} (k : ∀ h' σ', Fr' (Liv B c h) σ σ' (Liv B c h') → VS P B σb c h' σ' → Kv h' → K (.tuple #[]) σ' = true) (hv : vClear zero x h Kv) : builtinK P .clear [t] [w] σ K = true := by
 have fin : ∀ {b o q cc : Nat} {sp : Option Nat}, spOk sp = true → writeK σ b o (List.replicate (q + 1) zero).flatten (fun σ => K (.tuple #[]) σ) = true → builtinK P .clear [t] [.slice (some ⟨b, o, sp⟩) (q + 1) cc] σ K = true := by
  intro b o q cc sp hsp hw
  show (match isSlice P t with
   | some elem => match sizeT P elem, zeroT P elem with
    | some size, some zero => match (some (⟨b, o, sp⟩ : Addr)), q + 1 with
     | none, _ => K (.tuple #[]) σ
     | some _, 0 => K (.tuple #[]) σ
     | some ⟨i, o, sp⟩, n + 1 => match spOk sp, Nat.beq zero.length size, allB flat0 zero, size with
      | true, true, true, _ + 1 => repK zero (n + 1) fun cs => writeK σ i o cs fun σ => K (.tuple #[]) σ
      | _, _, _, _ => false
    | _, _ => false
   | none => false) = true
  simp only [he, hs, hz, hsp, hl, hf]
  rw [repK_eq]
  exact hw
 have none0 : ∀ {a : Addr} {cc : Nat}, K (.tuple #[]) σ = true → builtinK P .clear [t] [.slice (some a) 0 cc] σ K = true := by
  intro a cc hw
  show (match isSlice P t with
   | some elem => match sizeT P elem, zeroT P elem with
    | some size, some zero => K (.tuple #[]) σ
    | _, _ => false
   | none => false) = true
  simp only [he, hs, hz]
  exact hw
 have zs : ∀ {q : Nat} {z : List V}, ofVs zero = some z → VRL c σ (Liv B c h) (List.replicate (q + 1) z).flatten (List.replicate (q + 1) zero).flatten := fun hz => (ofVs_ok hz).flatten _
 have zero_of : ∀ {p : List V → Prop}, vZero zero p → ∃ z, ofVs zero = some z ∧ p z := by
  intro p hp
  unfold vZero at hp
  split at hp
  · rename_i z e; exact ⟨z, e, hp⟩
  · cases hp
 have here := fun (hv : Kv h) => k h σ (.refl _ σ) s hv
 unfold vClear at hv
 split at hv
 · cases r
   show (match isSlice P t with
    | some elem => match sizeT P elem, zeroT P elem with
     | some size, some zero => K (.tuple #[]) σ
     | _, _ => false
    | none => false) = true
   simp only [he, hs, hz]
   exact here hv
 · cases r with
   | own e =>
    split at hv
    · exact none0 (here hv)
    · obtain ⟨z, hz1, hq⟩ := zero_of hv
      split at hq
      · rename_i vs t' e1
        exact fin rfl (writeR_sim s e1 e (zs hz1) hq.1 k hq.2)
      · cases hq
 · cases r with
   | acc e =>
    obtain ⟨b, rfl⟩ := s.ηs _ _ _ e
    split at hv
    · exact none0 (here hv)
    · obtain ⟨z, hz1, hq⟩ := zero_of hv
      split at hq
      · rename_i vs t' m' e1
        obtain ⟨rfl, hq⟩ := hq
        exact fin rfl (writeG_sim s e1 e (zs hz1) (by omega) k hq.2)
      · cases hq
 · cases r with
   | asl e =>
    split at hv
    · exact none0 (here hv)
    · obtain ⟨z, hz1, hq⟩ := zero_of hv
      split at hq
      · rename_i vs t' m' e1
        obtain ⟨rfl, hq⟩ := hq
        exact fin rfl (writeG_sim s e1 e (zs hz1) hq.1 k hq.2)
      · cases hq
 · cases hv
theorem vCopy_sim (s : VS P B σb c h σ) {ts : List TypeId} {dT el : TypeId} {m : Nat} (he : isSlice P dT = some el) (hs : sizeT P el = some (m + 1)) {y x : V} {w u : Value} (r : VR' c σ (Liv B c h) y w) (q : VR' c σ (Liv B c h) x u) {Kv : KV} {K : VK} (k : KR P B σb c h σ Kv K) (hv : vCopy (m + 1) y x h Kv) : copyK P (dT :: ts) w u σ K = true := by
 unfold vCopy at hv
 obtain ⟨n, vs, ws, hv, hr, hl, hlen, hsrc⟩ := vSrc_sim s (Nat.succ_pos m) q hv
 cases y with
 | own i o d cc =>
  cases r with
  | @own _ _ _ _ b hι =>
  obtain ⟨hn, hv⟩ := hv
  unfold copyK
  simp only [he, hs]
  have hmin : Nat.min n d = n := Nat.min_eq_left hn
  rw [hlen, forceN_eq, hmin]
  cases n with
  | zero => exact k.here s .int hv
  | succ n =>
   obtain ⟨h1, hv⟩ := hv
   have hS := hsrc h1
   show firstK σ (m + 1) (n + 1) u _ = true
   rw [hS.first _ (by omega)]
   have ho : allB oneCell ws = true := by rw [allB_eq]; exact List.all_eq_true.2 hS.one
   simp only [show spOk none = true from rfl, ho]
   split at hv
   · rename_i us t e
     refine writeR_sim s e hι hr hv.1 (fun h' σ' f s' hv' => ?_) hv.2
     exact k c h' σ' _ _ (.refl c) f s' .int hv'
   · cases hv
 | _ => cases hv
theorem vSlA_sim {t el : TypeId} {len size : Nat} (he : P.underlying t = some (.array len el)) (hs : sizeT P el = some size) {x : V} {w : Value} (r : VR' c σ C x w) {lo hi mx : Option V} {lo' hi' mx' : Option Value} (r1 : OR' c σ C lo lo') (r2 : OR' c σ C hi hi') (r3 : OR' c σ C mx mx') {k : V → Prop} {K : Value → Bool} (hk : ∀ v w, VR' c σ C v w → k v → K w = true) (hv : vSlA len size x lo hi mx k) : sliceK P t w lo' hi' mx' σ K = true := by
 cases r <;> try (cases hv; done)
 rename_i i o b e
 unfold sliceK
 simp only [he, hs]
 refine vBnds_sim r1 r2 r3 (fun l h m h1 h2 h3 hv => ?_) hv
 simp only [forceN_eq]
 have hw : K (.slice (some ⟨b, if m = l then o else o + l * size, none⟩) (h - l) (m - l)) = true := hk _ _ (.own e) hv
 cases hq : Nat.beq m l with
 | true => rw [if_pos (Nat.eq_of_beq_eq_true hq)] at hw; exact hw
 | false => rw [if_neg (Nat.ne_of_beq_eq_false hq)] at hw; exact hw
theorem vSlT_sim {t : TypeId} (he : P.underlying t = some .string) {x : V} {w : Value} (r : VR' c σ C x w) {lo hi : Option V} {lo' hi' : Option Value} (r1 : OR' c σ C lo lo') (r2 : OR' c σ C hi hi') {k : V → Prop} {K : Value → Bool} (hk : ∀ v w, VR' c σ C v w → k v → K w = true) (hv : vSlT x lo hi k) : sliceK P t w lo' hi' none σ K = true := by
 cases r <;> try (cases hv; done)
 rename_i s
 unfold sliceK
 simp only [he]
 rw [lenK_eq]
 refine vBnds_sim r1 r2 .none (fun l h m h1 h2 h3 hv => ?_) hv
 rw [takeK_eq, if_pos (by omega), dropK_eq, if_pos (by simp; omega)]
 exact hk _ _ .str hv
theorem vMk_sim (s : VS P B σb c h σ) {t el : TypeId} {info : TypeInfo} {zero : List Value} {n : Nat} (he : isSlice P t = some el) (hi : P.info? el = some info) (hz : zeroT P el = some zero) (hl : Nat.beq zero.length info.size = true) (hn : info.size = n + 1) (hf : allB flat0 zero = true) {x y : V} {w u : Value} (r : VR' c σ C x w) (q : VR' c σ C y u) {Kv : KV} {K : VK} (k : KR P B σb c h σ Kv K) (hv : vMk el info.bytes zero x y h Kv) : makeSliceK P t w u σ K = true := by
 unfold vMk at hv
 cases r <;> try (cases hv; done)
 rename_i j z
 cases z with
 | negSucc n => cases hv
 | ofNat l =>
 cases q <;> try (cases hv; done)
 rename_i j' z
 cases z with
 | negSucc n => cases hv
 | ofNat cc =>
  obtain ⟨h1, h2, h3, hv⟩ := hv
  unfold vZero at hv
  split at hv
  · rename_i zs e
    rw [hn] at hl
    unfold makeSliceK
    simp only [he, hi, hz, Nat.ble_eq_true_of_le h1, Nat.ble_eq_true_of_le h2, Nat.ble_eq_true_of_le h3, Nat.ble_eq_true_of_le (show cc ≤ 1099511627776 by omega), hl, hn, hf]
    rw [repK_eq]
    obtain ⟨c', h', i, a1, a2, a3, a4, a5⟩ := vNew_sim s ((ofVs_ok e).flatten cc) hv
    rw [newK_eq]
    exact k c' h' _ _ _ a1 a2 a3 (.own a4) a5
  · cases hv
end
end Go.Am

namespace Go.Am
open Go.RowKit Go.MapKept
section
variable {P : Program} {B : Nat → Prop} {σb : St} {c c' d : Cx} {h h' : Hp} {σ σ' : St} {C C' : Nat → Prop}
theorem kindEq_refl (k : IntKind) : kindEq k k = true := by cases k <;> rfl
theorem plainC_T {t : TypeId} {ct : CT} (h : plainC P t = some ct) : plainT P t = true := by
 unfold plainC at h; unfold plainT
 split at h <;> simp_all
theorem ct_eq {t : TypeId} {ct : CT} (hc : plainC P t = some ct) {a b : V} {a' b' : Value} (ha : VR' c σ C a a') (hb : VR' c σ C b b') (oa : ctOk ct a) (ob : ctOk ct b) (k : Bool → Bool) : ∃ e : Bool, (e = true ↔ a = b) ∧ eqCellK P t a' b' k = k e := by
 unfold plainC at hc
 split at hc
 · rename_i ik hu
   injection hc with hc; subst hc
   cases ha <;> try (cases oa; done)
   rename_i j x
   cases hb <;> try (cases ob; done)
   rename_i j' y
   have oa : j = ik := oa
   have ob : j' = ik := ob
   subst oa ob
   refine ⟨eqI x y, ?_, ?_⟩
   · rw [eqI_eq]
     constructor
     · intro h; rw [beq_iff_eq.1 h]
     · intro h; injection h with _ h; subst h; simp
   · unfold eqCellK
     simp only [hu, kindEq_refl, forceB_eq]
 · rename_i hu
   injection hc with hc; subst hc
   cases ha <;> try (cases oa; done)
   rename_i x
   cases hb <;> try (cases ob; done)
   rename_i y
   refine ⟨eqL8 x y, ?_, ?_⟩
   · rw [eqL8_eq]
     constructor
     · intro h; rw [beq_iff_eq.1 h]
     · intro h; injection h with h; subst h; simp
   · unfold eqCellK
     simp only [hu, forceB_eq]
 · rename_i hu
   injection hc with hc; subst hc
   cases ha <;> try (cases oa; done)
   rename_i x
   cases hb <;> try (cases ob; done)
   rename_i y
   refine ⟨x == y, ?_, ?_⟩
   · constructor
     · intro h; rw [beq_iff_eq.1 h]
     · intro h; injection h with h; subst h; simp
   · unfold eqCellK
     simp only [hu, forceB_eq]
 · cases hc
theorem cts_eq {k : Bool → Bool} : ∀ {fs : List Field} {l : List CT} {a b : List V} {a' b' : List Value}, plainCs P fs = some l → VRL c σ C a a' → VRL c σ C b b' → ctsOk l a → ctsOk l b → ∃ e : Bool, (e = true ↔ a = b) ∧ eqCellsK P fs a' b' k = k e := by
 intro fs
 induction fs with
 | nil =>
  intro l a b a' b' hl ha hb oa ob
  simp [plainCs] at hl
  subst hl
  cases a with
  | cons => cases oa
  | nil => cases b with
   | cons => cases ob
   | nil => exact ⟨true, by simp, rfl⟩
 | cons f fs ih =>
  intro l a b a' b' hl ha hb oa ob
  unfold plainCs at hl
  split at hl
  · rename_i ct hct
    split at hl
    · rename_i l' hl'
      injection hl with hl; subst hl
      cases a with
      | nil => cases oa
      | cons x a => cases b with
       | nil => cases ob
       | cons y b =>
        obtain ⟨x', a'', rfl, rx, ra⟩ := ha.cons_inv
        obtain ⟨y', b'', rfl, ry, rb⟩ := hb.cons_inv
        obtain ⟨e2, g3, g4⟩ := ih hl' ra rb oa.2 ob.2
        obtain ⟨e1, g1, g2⟩ := ct_eq hct rx ry oa.1 ob.1 (fun e => match e with | true => eqCellsK P fs a'' b'' k | false => k false)
        refine ⟨e1 && e2, ?_, ?_⟩
        · rw [Bool.and_eq_true, g1, g3]; simp
        · show eqCellK P f.type x' y' (fun e => match e with | true => eqCellsK P fs a'' b'' k | false => k false) = _
          rw [g2]
          cases e1 with
          | true => exact g4
          | false => rfl
    · cases hl
  · cases hl
theorem ks_eq {t : TypeId} {sh : KSh} (hs : keyS P t = some sh) {a b : V} {a' b' : Value} (ha : VR' c σ C a a') (hb : VR' c σ C b b') (oa : ksOk sh a) (ob : ksOk sh b) (k : Bool → Bool) : ∃ e : Bool, (e = true ↔ a = b) ∧ keyEqK P t a' b' k = k e := by
 unfold keyS at hs
 split at hs
 · rename_i ct hct
   injection hs with hs; subst hs
   obtain ⟨e, g1, g2⟩ := ct_eq hct ha hb oa ob k
   refine ⟨e, g1, ?_⟩
   rw [← g2]
   unfold keyEqK
   split
   · rename_i xs ys
     cases ha <;> cases ct <;> cases oa
   · rfl
 · split at hs
   · rename_i fs hfs
     split at hs
     · rename_i l hl
       injection hs with hs; subst hs
       cases ha <;> try (cases oa; done)
       cases hb <;> try (cases ob; done)
       rename_i xs xs' la rxa ys ys' lb ryb
       obtain ⟨e, g1, g2⟩ := cts_eq (k := k) hl ⟨la, rxa⟩ ⟨lb, ryb⟩ oa ob
       refine ⟨e, ?_, ?_⟩
       · rw [g1]; simp
       · show equalK P t (.agg ⟨xs'⟩) (.agg ⟨ys'⟩) k = _
         unfold equalK
         simp only [hfs]
         exact g2
     · cases hs
   · cases hs
theorem ct_flat {ct : CT} {v : V} {w : Value} (r : VR' c σ C v w) (o : ctOk ct v) : flat0 w = true := by
 cases r <;> first | rfl | (cases ct <;> cases o)
theorem cts_flat : ∀ {l : List CT} {a : List V} {a' : List Value}, VRL c σ C a a' → ctsOk l a → a'.all flat0 = true ∧ a'.length = l.length := by
 intro l
 induction l with
 | nil => intro a a' r o; cases a with | cons => cases o | nil => rw [r.nil_inv]; exact ⟨rfl, rfl⟩
 | cons ct l ih =>
  intro a a' r o
  cases a with
  | nil => cases o
  | cons x a =>
   obtain ⟨x', a'', rfl, rx, ra⟩ := r.cons_inv
   obtain ⟨h1, h2⟩ := ih ra o.2
   exact ⟨by simp [ct_flat rx o.1, h1], by simp [h2]⟩
theorem plainCs_len : ∀ {fs : List Field} {l : List CT}, plainCs P fs = some l → fs.length = l.length := by
 intro fs
 induction fs with
 | nil => intro l h; simp [plainCs] at h; subst h; rfl
 | cons f fs ih =>
  intro l h
  unfold plainCs at h
  split at h
  · split at h
    · rename_i hl; injection h with h; subst h; simp [ih hl]
    · cases h
  · cases h
theorem ks_keyOk {t : TypeId} {sh : KSh} (hs : keyS P t = some sh) {a : V} {a' : Value} (ha : VR' c σ C a a') (oa : ksOk sh a) : keyOk P t a' = true := by
 unfold keyS at hs
 split at hs
 · rename_i ct hct
   injection hs with hs; subst hs
   have hf := ct_flat ha oa
   have h1 : flat1 a' = true := by cases a' <;> first | exact hf | (simp [flat0] at hf)
   unfold keyOk
   simp only [h1, plainC_T hct]
 · rename_i hn
   split at hs
   · rename_i fs hfs
     split at hs
     · rename_i l hl
       injection hs with hs; subst hs
       cases ha <;> try (cases oa; done)
       rename_i xs xs' la rxa
       obtain ⟨h1, h2⟩ := cts_flat ⟨la, rxa⟩ oa
       have h1 : flat1 (.agg ⟨xs'⟩) = true := h1
       unfold keyOk
       have h3 : Nat.ble fs.length xs'.length = true := Nat.ble_eq_true_of_le (by rw [plainCs_len hl, h2]; exact Nat.le_refl _)
       simp only [h1]
       cases plainT P t with
       | true => rfl
       | false => simp only [hfs, h3]
     · cases hs
   · cases hs
theorem bytes_beq (l : List UInt8) : ((⟨⟨l⟩⟩ : ByteArray) == ⟨⟨l⟩⟩) = true := by
 show ByteArray.beq ⟨⟨l⟩⟩ ⟨⟨l⟩⟩ = true
 unfold ByteArray.beq
 simp
theorem ct_same {n : Nat} {ct : CT} {v : V} {w : Value} (r : VR' c σ C v w) (o : ctOk ct v) : Instr.sameBits n w w = true := by
 cases r <;> first | (cases ct <;> cases o; done) | (cases n <;> first | exact bytes_beq _ | (simp [Instr.sameBits]; done))
theorem cts_same {n : Nat} : ∀ {l : List CT} {a : List V} {a' : List Value}, VRL c σ C a a' → ctsOk l a → ((a'.zip a').all fun (x, y) => Instr.sameBits n x y) = true := by
 intro l
 induction l with
 | nil => intro a a' r o; cases a with | cons => cases o | nil => rw [r.nil_inv]; rfl
 | cons ct l ih =>
  intro a a' r o
  cases a with
  | nil => cases o
  | cons x a =>
   obtain ⟨x', a'', rfl, rx, ra⟩ := r.cons_inv
   simp [ct_same rx o.1]
   have := ih ra o.2
   simpa using this
theorem ks_same {sh : KSh} {a : V} {a' : Value} (ha : VR' c σ C a a') (oa : ksOk sh a) (n : Nat) : Instr.sameBits (n + 1) a' a' = true := by
 cases sh with
 | one ct => exact ct_same ha oa
 | many l =>
  cases ha <;> try (cases oa; done)
  rename_i xs xs' la rxa
  have := cts_same (n := n) (⟨la, rxa⟩ : VRL c σ C xs xs') oa
  simp only [Instr.sameBits]
  simpa using this
def EsR (c : Cx) (σ : St) (C : Nat → Prop) (es : List (V × V)) (es' : List MapEntry) : Prop := es.length = es'.length ∧ ∀ (k : Nat) (x : V × V) (y : MapEntry), es[k]? = some x → es'[k]? = some y → VR' c σ C x.1 y.key ∧ VR' c σ C x.2 y.val
theorem EsR.tail {x : V × V} {y : MapEntry} {es : List (V × V)} {es' : List MapEntry} (r : EsR c σ C (x :: es) (y :: es')) : EsR c σ C es es' := ⟨by simpa using r.1, fun k a b p q => r.2 (k + 1) a b (by simpa using p) (by simpa using q)⟩
theorem find_sim {t : TypeId} {sh : KSh} (hs : keyS P t = some sh) {a : V} {a' : Value} (ha : VR' c σ C a a') (oa : ksOk sh a) (k : Option (Nat × MapEntry) → Bool) : ∀ {es : List (V × V)} {es' : List MapEntry} (i : Nat), EsR c σ C es es' → (∀ e ∈ es, ksOk sh e.1) →
 (vGet es a = none ∧ (∀ x, vPut es a x = es ++ [(a, x)]) ∧ lrec (β := Nat → Bool) (fun _ => k none) (fun e _ ih i => keyEqK P t a' e.key fun b => match b with | true => k (some (i, e)) | false => forceN (Nat.succ i) ih) es' i = k none) ∨
 ∃ j v e', vGet es a = some v ∧ es'[j]? = some e' ∧ e'.key = a' ∧ VR' c σ C v e'.val ∧ (∀ x, vPut es a x = es.set j (a, x)) ∧ lrec (β := Nat → Bool) (fun _ => k none) (fun e _ ih i => keyEqK P t a' e.key fun b => match b with | true => k (some (i, e)) | false => forceN (Nat.succ i) ih) es' i = k (some (i + j, e')) := by
 intro es
 induction es with
 | nil =>
  intro es' i r ho
  have : es' = [] := List.eq_nil_of_length_eq_zero (by simpa using r.1.symm)
  subst this
  exact .inl ⟨rfl, fun x => rfl, rfl⟩
 | cons x es ih =>
  intro es' i r ho
  cases es' with
  | nil => have := r.1; simp at this
  | cons y es' =>
   have r0 := r.2 0 x y rfl rfl
   rw [lrec_cons]
   obtain ⟨e, g1, g2⟩ := ks_eq hs ha r0.1 oa (ho x (.head _)) (fun b => match b with | true => k (some (i, y)) | false => forceN (Nat.succ i) (lrec (β := Nat → Bool) (fun _ => k none) (fun e _ ih i => keyEqK P t a' e.key fun b => match b with | true => k (some (i, e)) | false => forceN (Nat.succ i) ih) es'))
   rw [g2]
   by_cases he : a = x.1
   · have : e = true := g1.2 he
     subst this
     refine .inr ⟨0, x.2, y, by simp [vGet, he], rfl, ?_, r0.2, fun z => by simp [vPut, he], rfl⟩
     have := r0.1
     rw [← he] at this
     exact this.fn ha
   · have : e = false := by cases e with | false => rfl | true => exact absurd (g1.1 rfl) he
     subst this
     rw [forceN_eq]
     rcases ih (i + 1) r.tail (fun e he => ho e (.tail _ he)) with ⟨q1, q2, q3⟩ | ⟨j, v, e', q1, q2, q3, q4, q5, q6⟩
     · exact .inl ⟨by simp [vGet, he, q1], fun z => by simp [vPut, he, q2 z], q3⟩
     · refine .inr ⟨j + 1, v, e', by simp [vGet, he, q1], by simpa using q2, q3, q4, fun z => by simp [vPut, he, q5 z], ?_⟩
       rw [show i + (j + 1) = i + 1 + j by omega]
       exact q6
theorem VS.map (s : VS P B σb c h σ) {i : Nat} {es : List (V × V)} (e : h i = some (.map es)) : ∃ b es' ck, c.ι i = some b ∧ σ.obj b = some (.map es' ck) ∧ EsR c σ (Liv B c h) es es' := by
 obtain ⟨b, a, a1, a2, a3, a4, es', ck, rfl, _, a5, a6⟩ := s.ob i _ e rfl
 exact ⟨b, es', ck, a1, a4, a5, a6⟩
theorem VS.mapB (s : VS P B σb c h σ) {i : Nat} {es : List (V × V)} (e : h i = some (.map es)) : ∃ b es' ck, c.ι i = some b ∧ σ.obj b = some (.map es' ck) ∧ EsR c σ (Liv B c h) es es' ∧ BornOk es' ck := by
 obtain ⟨b, a, a1, a2, a3, a4, es', ck, rfl, a7, a5, a6⟩ := s.ob i _ e rfl
 exact ⟨b, es', ck, a1, a4, ⟨a5, a6⟩, a7⟩
theorem mapK_h {b : Nat} {es : List MapEntry} {ck : Nat} (e : σ.obj b = some (.map es ck)) (k : Option Nat → List MapEntry → Nat → Bool) : mapK σ (.map (some b)) k = k (some b) es ck := by
 show getK σ.h b _ = _
 rw [getK_eq]
 have e : σ.h.get b = some (.map es ck) := e
 rw [e]
theorem vLook_sim (s : VS P B σb c h σ) {t kt et : TypeId} {sh : KSh} {z : Value} {zv : V} {ok : Bool} (ht : mapT P t = some (kt, et)) (hs : keyS P kt = some sh) (hz : zeroV P et = some z) (hzv : ofC z = some zv) {m a : V} {w u : Value} (r : VR' c σ (Liv B c h) m w) (q : VR' c σ (Liv B c h) a u) {Kv : KV} {K : VK} (k : KR P B σb c h σ Kv K) (hv : vLook sh zv ok m a h Kv) : lookupK P t w u ok σ K = true := by
 unfold vLook at hv
 split at hv
 · rename_i i
   cases r with
   | mapv hι =>
    split at hv
    · rename_i es e
      obtain ⟨oa, ho, hv1, hv2⟩ := hv
      obtain ⟨b, es', ck, a1, a2, a3⟩ := s.map e
      rw [hι] at a1; injection a1 with a1; subst a1
      obtain ⟨hf, rz⟩ := ofC_ok (c := c) (σ := σ) (C := Liv B c h) hzv
      unfold lookupK
      simp only [ht, hz, ks_keyOk hs q oa]
      rw [mapK_h a2]
      unfold findK
      rcases find_sim hs q oa (fun r => match (generalizing := false) r with
       | some (_, e) => match (generalizing := false) ok with | true => K (.tuple ⟨[e.val, .bool true]⟩) σ | false => K e.val σ
       | none => match (generalizing := false) flat1 z with
        | true => match (generalizing := false) ok with | true => K (.tuple ⟨[z, .bool false]⟩) σ | false => K z σ
        | false => false) 0 a3 ho with ⟨q1, _, q3⟩ | ⟨j, v, e', q1, q2, q3, q4, _, q6⟩
      · refine q3.trans ?_
        simp only [hf]
        cases ok with
        | true => exact k.here s (.tuple (VRL.cons rz (.cons .bool .nil)).len (VRL.cons rz (.cons .bool .nil)).rd) (hv2 q1)
        | false => exact k.here s rz (hv2 q1)
      · refine q6.trans ?_
        cases ok with
        | true => exact k.here s (.tuple (VRL.cons q4 (.cons .bool .nil)).len (VRL.cons q4 (.cons .bool .nil)).rd) (hv1 v q1)
        | false => exact k.here s q4 (hv1 v q1)
    · cases hv
 · cases hv
theorem vMapUp_sim (s : VS P B σb c h σ) {t kt et : TypeId} {sh : KSh} (ht : mapT P t = some (kt, et)) (hs : keyS P kt = some sh) {m a x : V} {w u y : Value} (r : VR' c σ (Liv B c h) m w) (q : VR' c σ (Liv B c h) a u) (rx : VR' c σ (Liv B c h) x y) {Kv : KV} {K : VK} (k : KR P B σb c h σ Kv K) (hv : vMapUp sh m a x h fun h => Kv undV h) : mapUpdateK P t w u y σ (fun σ => K undef σ) = true := by
 unfold vMapUp at hv
 split at hv
 · rename_i i
   cases r with
   | mapv hι =>
    split at hv
    · rename_i es e
      obtain ⟨oa, ho, hv⟩ := hv
      obtain ⟨b, es', ck, a1, a2, a3, a8⟩ := s.mapB e
      have a1' := a1
      rw [hι] at a1; injection a1 with a1; subst a1
      unfold mapUpdateK
      simp only [ht, ks_keyOk hs q oa]
      rw [mapK_h a2]
      simp only
      unfold findK
      have fin : ∀ es2 ck2, BornOk es2 ck2 → EsR c σ (Liv B c h) (vPut es a x) es2 → K undef (σ.set _ (.map es2 ck2)) = true := fun es2 ck2 b2 r2 => by
       obtain ⟨s1, f1⟩ := s.setOb e rfl hι (o := .map (vPut es a x)) rfl (ao := .map es2 ck2) fun σ' C' f => ⟨es2, ck2, rfl, b2, r2.1, fun k x y p q => ⟨(r2.2 k x y p q).1.mono (.refl c) f, (r2.2 k x y p q).2.mono (.refl c) f⟩⟩
       exact k c _ _ undV undef (.refl c) f1 s1 (.tuple (a' := []) rfl fun k v w e => by simp at e) hv
      rcases find_sim hs q oa (fun f => match f with
       | some (i, e) => match Instr.sameBits 10000 e.key u with
        | true => setNK { e with val := y } es' i fun es => setK σ _ (.map es ck) fun σ => K undef σ
        | false => false
       | none => appK es' [{ key := u, val := y, born := ck }] fun es => forceN (Nat.succ ck) fun c => setK σ _ (.map es c) fun σ => K undef σ) 0 a3 ho with ⟨q1, q2, q3⟩ | ⟨j, v, e', q1, q2, q3, q4, q5, q6⟩
      · refine q3.trans ?_
        rw [appK_eq, forceN_eq, setK_eq]
        refine fin _ _ (a8.app rfl) ?_
        rw [q2 x]
        refine ⟨by simp [a3.1], fun k p p' e1 e2 => ?_⟩
        by_cases hk : k < es.length
        · rw [List.getElem?_append_left hk] at e1
          rw [List.getElem?_append_left (by rw [← a3.1]; exact hk)] at e2
          exact a3.2 k p p' e1 e2
        · rw [List.getElem?_append_right (by omega)] at e1
          rw [List.getElem?_append_right (by rw [← a3.1]; omega), ← a3.1] at e2
          cases hq : k - es.length with
          | zero =>
           rw [hq] at e1 e2
           simp at e1 e2
           subst e1 e2
           exact ⟨q, rx⟩
          | succ n => rw [hq] at e1; simp at e1
      · refine q6.trans ?_
        simp only [Nat.zero_add, q3]
        rw [ks_same q oa 9999]
        simp only
        rw [setNK_eq, setK_eq]
        refine fin _ _ (a8.set q2 rfl) ?_
        rw [q5 x]
        refine ⟨by simp [a3.1], fun k p p' e1 e2 => ?_⟩
        by_cases hk : k = j
        · subst hk
          rw [List.getElem?_set, if_pos rfl] at e1 e2
          split at e1
          · rename_i hlt
            rw [if_pos (by rw [← a3.1]; exact hlt)] at e2
            injection e1 with e1
            injection e2 with e2
            subst e1 e2
            exact ⟨q, rx⟩
          · cases e1
        · rw [List.getElem?_set_ne (Ne.symm hk)] at e1 e2
          exact a3.2 k p p' e1 e2
    · cases hv
 · cases hv
theorem vNewMap_sim (s : VS P B σb c h σ) {Kv : KV} {K : VK} (k : KR P B σb c h σ Kv K) (hv : vNewMap h Kv) : newK σ (.map [] 0) (fun i σ => K (.map (some i)) σ) = true := by
 obtain ⟨i, e1, e2, e3⟩ := s.fresh
 obtain ⟨s1, l1, f1, i1⟩ := s.newOb e1 e2 e3 (o := .map []) (ao := .map [] 0) rfl fun _ _ _ _ _ => ⟨[], 0, rfl, ⟨.nil, fun e he => by cases he⟩, rfl, fun k x y p => by simp at p⟩
 rw [newK_eq]
 exact k _ _ _ _ _ l1 f1 s1 (.mapv i1) (hv i e1)
theorem vAgg_sim {op : BinOp} {t : TypeId} {a b : V} {u w : Value} (r : VR' c σ C a u) (q : VR' c σ C b w) {Kv : V → Prop} {K : Value → Bool} (k : ∀ v w, VR' c σ C v w → Kv v → K w = true) (hv : vAgg P op t a b Kv) : rBin P op t u w K = true := by
 rw [rBin_eq]
 unfold vAgg at hv
 split at hv
 · rename_i l hl
   cases r <;> try (cases hv; done)
   rename_i xs xs' la rxa
   cases q <;> try (cases hv; done)
   rename_i ys ys' lb ryb
   obtain ⟨ox, oy, hv⟩ := hv
   unfold keyS at hl
   split at hl
   · cases hl
   · split at hl
     · rename_i fs hfs
       split at hl
       · rename_i l' hl'
         injection hl with hl
         injection hl with hl
         subst hl
         have eq : ∀ kk : Bool → Bool, ∃ e : Bool, (e = true ↔ xs = ys) ∧ equalK P t (.agg ⟨xs'⟩) (.agg ⟨ys'⟩) kk = kk e := fun kk => by
          obtain ⟨e, g1, g2⟩ := cts_eq (k := kk) hl' ⟨la, rxa⟩ ⟨lb, ryb⟩ ox oy
          refine ⟨e, g1, ?_⟩
          unfold equalK
          simp only [hfs]
          exact g2
         cases op <;> first | (cases hv; done) | skip
         · show equalK P t (.agg ⟨xs'⟩) (.agg ⟨ys'⟩) (fun e => boolK e K) = true
           obtain ⟨e, g1, g2⟩ := eq fun e => boolK e K
           rw [g2, boolK_eq]
           cases e with
           | true => exact k _ _ .bool (hv.1 (g1.1 rfl))
           | false => exact k _ _ .bool (hv.2 fun h => by have := g1.2 h; cases this)
         · show equalK P t (.agg ⟨xs'⟩) (.agg ⟨ys'⟩) (fun e => boolK (!e) K) = true
           obtain ⟨e, g1, g2⟩ := eq fun e => boolK (!e) K
           rw [g2, boolK_eq]
           cases e with
           | true => exact k _ _ .bool (hv.1 (g1.1 rfl))
           | false => exact k _ _ .bool (hv.2 fun h => by have := g1.2 h; cases this)
       · cases hl
     · cases hl
 · cases hv
end
end Go.Am

namespace Go.Am
open Go.RowKit Go.MapKept
section
variable {P : Program} {B : Nat → Prop} {σb : St} {c c' d : Cx} {h h' : Hp} {σ σ' : St} {C C' : Nat → Prop}
theorem FzL_sim (s : VS P B σb c h σ) (l : Hle h' h) {τ : Nat → Tag} (le : c.le d) (e : Liv B d h' = Liv B c h') {vs us : List V} {ws : List Value} (ht : ∀ (k : Nat) (w : Value), ws[k]? = some w → TagR d σ (Liv B d h') (τ k) w)
 (r : VRL c σ (Liv B c h) vs ws) (hf : FzL h' h τ vs us) : VRL d σ (Liv B d h') us ws := by
 have f2 : Fr' (Liv B c h) σ σ (Liv B d h') := by rw [e]; exact (s.drop l).2
 obtain ⟨g1, g2⟩ := hf
 refine ⟨by rw [g1]; exact r.len, fun k u w e1 e2 => ?_⟩
 have hk : k < vs.length := by rw [← g1]; exact (List.getElem?_eq_some_iff.1 e1).1
 have ev := List.getElem?_eq_getElem hk
 have hr := r.rd k _ w ev e2
 have hz := g2 k _ u ev e1
 cases hz with
 | keep => exact hr.mono le f2
 | dat hfz =>
  have := s.frz l hfz hr
  exact T_ok (by rw [e]; exact this) (ht k w e2)
def partsOf' : Value → List Value
 | .agg ⟨l⟩ => l
 | .tuple ⟨l⟩ => l
 | w => [w]
theorem Fz_sim (s : VS P B σb c h σ) (l : Hle h' h) {v : V} {w : Value} {u : (Nat → Tag) → V} (r : VR' c σ (Liv B c h) v w) (hf : ∀ τ, Fz h' h τ v (u τ)) :
 ∃ d τ, c.le d ∧ VS P B σb d h' σ ∧ Fr' (Liv B c h) σ σ (Liv B d h') ∧ VR' d σ (Liv B d h') (u τ) w := by
 obtain ⟨s1, f1⟩ := s.drop l
 obtain ⟨d, τ, le, s2, e, ht⟩ := s1.names (partsOf' w)
 have f2 : Fr' (Liv B c h) σ σ (Liv B d h') := by rw [e]; exact f1
 refine ⟨d, τ, le, s2, f2, ?_⟩
 have hz := hf τ
 generalize u τ = x at hz
 cases hz with
 | one hz =>
  cases hz with
  | keep => exact r.mono le f2
  | dat hfz =>
   have hd := s.frz l hfz r
   have hp : partsOf' w = [w] := by cases hd <;> rfl
   exact T_ok (by rw [e]; exact hd) (ht 0 w (by rw [hp]; rfl))
 | agg hz =>
  cases r with
  | agg la ha =>
   have := FzL_sim s l le e ht ⟨la, ha⟩ hz
   exact .agg this.len this.rd
 | tup hz =>
  cases r with
  | tuple la ha =>
   have := FzL_sim s l le e ht ⟨la, ha⟩ hz
   exact .tuple this.len this.rd
structure ER (P : Program) (B : Nat → Prop) (σb : St) (Ev : VE) (E : Env) : Prop where
 eP : E.P = P
 eM : Ev.most = E.most
 eC : ∀ (f : FuncId) {args : List V} {ws : List Value} {c : Cx} {h : Hp} {σ : St} {Kv : KV} {K : VK}, VS P B σb c h σ → VRL c σ (Liv B c h) args ws → KR P B σb c h σ Kv K → Ev.C f args h Kv → E.call f ws σ K = true
 eR : ∀ (l b : Nat) {args : List V} {ws : List Value} {c : Cx} {h : Hp} {σ : St} {Kv : KV} {K : VK}, VS P B σb c h σ → c.ι l = some b → VRL c σ (Liv B c h) args ws → KR P B σb c h σ Kv K → Ev.R l args h Kv → E.round b ws σ K = true
theorem ER.call' {Ev : VE} {E : Env} (r : ER P B σb Ev E) (f : FuncId) {args : List V} {ws : List Value} {Kv : KV} {K : VK} (s : VS P B σb c h σ) (ra : VRL c σ (Liv B c h) args ws) (k : KR P B σb c h σ Kv K) (hv : Ev.call f args h Kv) : E.call f ws σ K = true := by
 obtain ⟨h', us, l, hf, hv⟩ := hv
 obtain ⟨s1, f1⟩ := s.drop l
 obtain ⟨d, τ, le, s2, e, ht⟩ := s1.names ws
 have f2 : Fr' (Liv B c h) σ σ (Liv B d h') := by rw [e]; exact f1
 exact r.eC f s2 (FzL_sim s l le e ht ra (hf τ)) (fun c' h' σ' v w a b => k c' h' σ' v w (le.trans a) (f2.trans b)) (hv τ)
theorem callV_sim {Ev : VE} {E : Env} (r : ER P B σb Ev E) {A : VA} {A' : AAct} (s : VS P B σb c h σ) (a : AR c σ (Liv B c h) A A') {cl : Call} {Kv : KV} {K : VK} (k : KR P B σb c h σ Kv K) (hv : (callV P cl).f Ev A h Kv) : callOpK E A' cl σ K = true := by
 have hP := r.eP
 subst hP
 unfold callV at hv
 split at hv
 · rename_i hc
   split at hv
   · rename_i t x ht ha
     unfold callOpK
     rw [hc, ha, ht]
     simp only [evsK, lrec_cons, lrec_nil]
     split at hv
     · rename_i _ _ e hs
       refine evV_sim a hv fun v w rv hv => ?_
       rw [lenK_s hs]
       exact vLenS_sim s rv (fun v w rv h => k.here s rv h) hv
     · rename_i _ _ hs hu
       refine evV_sim a hv fun v w rv hv => ?_
       rw [lenK_t hu]
       exact vLenT_sim rv (fun v w rv h => k.here s rv h) hv
     · cases hv
   · cases hv
 · rename_i hc
   split at hv
   · rename_i sT xT x y ht ha
     unfold callOpK
     rw [hc, ha, ht]
     simp only [evsK, lrec_cons, lrec_nil]
     split at hv
     · rename_i el hs hx
       split at hv
       · rename_i info hi
         split at hv
         · rename_i n z hn hz
           split at hv
           · rename_i hzs hsz
             have hsz : sizeT E.P el = some (n + 1) := by
              have := Nat.eq_of_beq_eq_true hsz
              cases hq : sizeT E.P el with
              | none => rw [hq] at this; simp at this
              | some m => rw [hq] at this; simp at this; rw [this]
             refine evV_sim a hv fun v w rv hv => ?_
             refine evV_sim a hv fun v2 w2 rv2 hv => ?_
             show appendK E.P [sT, xT] w w2 σ K = true
             rw [appendK_r hs hx hi hn hz hzs]
             exact vApp_sim s (by omega) hsz rv rv2 k hv
           · cases hv
         · cases hv
       · cases hv
     · cases hv
   · cases hv
 · rename_i hc
   split at hv
   · rename_i x y ha
     unfold callOpK
     rw [hc, ha]
     simp only [evsK, lrec_cons, lrec_nil]
     refine evV_sim a hv fun v w rv hv => ?_
     refine evV_sim a hv fun v2 w2 rv2 hv => ?_
     exact vMin_sim (big := false) rv rv2 (fun v w rv h => k.here s rv h) hv
   · cases hv
 · rename_i hc
   split at hv
   · rename_i x y ha
     unfold callOpK
     rw [hc, ha]
     simp only [evsK, lrec_cons, lrec_nil]
     refine evV_sim a hv fun v w rv hv => ?_
     refine evV_sim a hv fun v2 w2 rv2 hv => ?_
     exact vMin_sim (big := true) rv rv2 (fun v w rv h => k.here s rv h) hv
   · cases hv
 · rename_i hc
   split at hv
   · rename_i t x ht ha
     unfold callOpK
     rw [hc, ha, ht]
     simp only [evsK, lrec_cons, lrec_nil]
     split at hv
     · rename_i el hs
       split at hv
       · rename_i m zero hsz hz
         split at hv
         · rename_i hl hf
           refine evV_sim a hv fun v w rv hv => ?_
           exact vClear_sim s hs hsz hz hl hf rv (fun h' σ' f s' hv => k c h' σ' undV (.tuple #[]) (.refl c) f s' (.tuple (a' := []) rfl fun k v w e => by simp at e) hv) hv
         · cases hv
       · cases hv
     · cases hv
   · cases hv
 · rename_i hc
   split at hv
   · rename_i dT ts x y ht ha
     unfold callOpK
     rw [hc, ha, ht]
     simp only [evsK, lrec_cons, lrec_nil]
     split at hv
     · rename_i el hs
       split at hv
       · rename_i m hsz
         refine evV_sim a hv fun v w rv hv => ?_
         refine evV_sim a hv fun v2 w2 rv2 hv => ?_
         exact vCopy_sim (ts := ts) s hs hsz rv rv2 k hv
       · cases hv
     · cases hv
   · cases hv
 · cases hv
 · rename_i f hc
   unfold callOpK
   rw [hc]
   refine evsV_sim a hv fun vs ws ra hv => ?_
   refine evV_sim a hv fun v w rv hv => ?_
   unfold vCallV at hv
   split at hv
   · cases rv with
     | func la ld ha hd =>
      show (appK _ ws fun l => appK l _ fun l => E.call _ l σ K) = true
      rw [appK_eq, appK_eq]
      exact r.call' _ s ((VRL.app ⟨la, ha⟩ ra).app ⟨ld, hd⟩) k hv
   · cases rv with
     | yield e => exact r.eR _ _ s e ra k hv
   · cases hv
 · rename_i rc m hc
   unfold callOpK
   rw [hc]
   refine evsV_sim a hv fun vs ws ra hv => ?_
   refine evV_sim a hv fun v w rv hv => ?_
   unfold vInv at hv
   split at hv
   · rename_i t v'
     split at hv
     · rename_i g hg
       cases rv with
       | iface rv =>
        show (match methT E.P t m with | some g => E.call g _ σ K | none => false) = true
        rw [hg]
        exact r.call' _ s (.cons rv ra) k hv
     · cases hv
   · cases hv
theorem evO_sim {A : VA} {A' : AAct} (a : AR c σ C A A') {x : Option Operand} {k : Option V → Prop} {k' : Option Value → Bool} (hv : (evO x).f A k) (hk : ∀ o o', OR' c σ C o o' → k o → k' o' = true) : optK A' x k' = true := by
 cases x with
 | none => exact hk _ _ .none hv
 | some x => exact evV_sim a hv fun v w rv hv => hk _ _ (.some rv) hv
theorem sliceV_sim {A : VA} {A' : AAct} (s : VS P B σb c h σ) (a : AR c σ (Liv B c h) A A') {Ev : VE} {t : TypeId} {x : Operand} {lo hi mx : Option Operand} {Kv : KV} {K : VK} (k : ∀ v w, VR' c σ (Liv B c h) v w → Kv v h → K w σ = true) (hv : (sliceV P t x lo hi mx).f Ev A h Kv) :
 evK A' x (fun x => optK A' lo fun lo => optK A' hi fun hi => optK A' mx fun mx => sliceK P t x lo hi mx σ fun v => K v σ) = true := by
 unfold sliceV at hv
 split at hv
 · rename_i el he
   split at hv
   · rename_i size hs
     refine evV_sim a hv fun v w rv hv => ?_
     refine evO_sim a hv fun o1 o1' r1 hv => ?_
     refine evO_sim a hv fun o2 o2' r2 hv => ?_
     refine evO_sim a hv fun o3 o3' r3 hv => ?_
     exact vSlS_sim s he hs rv r1 r2 r3 k hv
   · cases hv
 · split at hv
   · rename_i hu
     split at hv
     · refine evV_sim a hv fun v w rv hv => ?_
       refine evO_sim a hv fun o1 o1' r1 hv => ?_
       refine evO_sim a hv fun o2 o2' r2 hv => ?_
       exact vSlT_sim hu rv r1 r2 k hv
     · cases hv
   · rename_i len el hu
     split at hv
     · rename_i size hs
       refine evV_sim a hv fun v w rv hv => ?_
       refine evO_sim a hv fun o1 o1' r1 hv => ?_
       refine evO_sim a hv fun o2 o2' r2 hv => ?_
       refine evO_sim a hv fun o3 o3' r3 hv => ?_
       exact vSlA_sim hu hs rv r1 r2 r3 k hv
     · cases hv
   · cases hv
theorem makeSliceV_sim {A : VA} {A' : AAct} (s : VS P B σb c h σ) (a : AR c σ (Liv B c h) A A') {Ev : VE} {t : TypeId} {x y : Operand} {Kv : KV} {K : VK} (k : KR P B σb c h σ Kv K) (hv : (makeSliceV P t x y).f Ev A h Kv) :
 evK A' x (fun l => evK A' y fun c => makeSliceK P t l c σ K) = true := by
 unfold makeSliceV at hv
 split at hv
 · rename_i el he
   split at hv
   · rename_i info zero hi hz
     split at hv
     · rename_i n hl hn hf
       refine evV_sim a hv fun v w rv hv => ?_
       refine evV_sim a hv fun v2 w2 rv2 hv => ?_
       exact vMk_sim s he hi hz hl hn hf rv rv2 k hv
     · cases hv
   · cases hv
 · cases hv
theorem lookupV_sim {A : VA} {A' : AAct} (s : VS P B σb c h σ) (a : AR c σ (Liv B c h) A A') {Ev : VE} {t : TypeId} {x ix : Operand} {ok : Bool} {Kv : KV} {K : VK} (k : KR P B σb c h σ Kv K) (hv : (lookupV P t x ix ok).f Ev A h Kv) :
 evK A' x (fun x => evK A' ix fun ix => lookupK P t x ix ok σ K) = true := by
 unfold lookupV at hv
 split at hv
 · rename_i kt et ht
   split at hv
   · rename_i sh z hs hz
     split at hv
     · rename_i zv hzv
       refine evV_sim a hv fun v w rv hv => ?_
       refine evV_sim a hv fun v2 w2 rv2 hv => ?_
       exact vLook_sim s ht hs hz hzv rv rv2 k hv
     · cases hv
   · cases hv
 · cases hv
theorem mapUpV_sim {A : VA} {A' : AAct} (s : VS P B σb c h σ) (a : AR c σ (Liv B c h) A A') {Ev : VE} {t : TypeId} {m x y : Operand} {Kv : KV} {K : VK} (k : KR P B σb c h σ Kv K) (hv : (mapUpV P t m x y).f Ev A h Kv) :
 evK A' m (fun m => evK A' x fun x => evK A' y fun y => mapUpdateK P t m x y σ fun σ => K undef σ) = true := by
 unfold mapUpV at hv
 split at hv
 · rename_i kt et ht
   split at hv
   · rename_i sh hs
     refine evV_sim a hv fun v w rv hv => ?_
     refine evV_sim a hv fun v2 w2 rv2 hv => ?_
     refine evV_sim a hv fun v3 w3 rv3 hv => ?_
     exact vMapUp_sim s ht hs rv rv2 rv3 k hv
   · cases hv
 · cases hv
theorem opV_sim {Ev : VE} {E : Env} (r : ER P B σb Ev E) {A : VA} {A' : AAct} (s : VS P B σb c h σ) (a : AR c σ (Liv B c h) A A') {o : Oper} {Kv : KV} {K : VK} (k : KR P B σb c h σ Kv K) (hv : (opV P o).f Ev A h Kv) : opK E o A' σ K = true := by
 have kh : ∀ v w, VR' c σ (Liv B c h) v w → Kv v h → K w σ = true := fun v w rv hk => k.here s rv hk
 unfold opV at hv
 have hP := r.eP
 subst hP
 split at hv <;> rename_i hop <;> try (unfold opK; rw [hop])
 · exact evV_sim a hv kh
 · exact evV_sim a hv kh
 · refine evV_sim a hv fun v w rv hv => ?_
   refine evV_sim a hv fun v1 w1 rv1 hv => ?_
   refine evV_sim a hv fun v2 w2 rv2 hv => ?_
   rw [shutP_eq] at hv
   unfold vPick at hv
   split at hv
   · rename_i b hva hvb
     cases rv
     cases b with
     | true => exact kh _ _ rv1 hv
     | false => exact kh _ _ rv2 hv
   · cases hv
 · split at hv
   · rename_i z hz
     split at hv
     · rename_i hf
       show allocK E.P _ σ K = true
       rw [allocK_r hz hf]
       exact vAlloc_sim s k hv
     · cases hv
   · cases hv
 · exact evV_sim a hv fun v w rv hv => vBox_sim s rv k hv
 · have hx : (opX E.P o).f E A' σ K = opK E o A' σ K := opX_eq E o A' σ K
   unfold opK at hx
   rw [hop] at hx
   simp only at hx ⊢
   rw [← hx]
   unfold opX
   rw [hop]
   simp only
   split at hv
   · rename_i zero fields hz hu
     simp only [hz, hu]
     split at hv
     · rename_i pl hp
       simp only [hp]
       split at hv
       · rename_i hf ha
         simp only [hf, ha]
         exact partsV_sim a hv fun l l' hl hv => vBuild_sim s hl kh hv
       · cases hv
     · cases hv
   · rename_i zero n elem hz hu
     simp only [hz, hu]
     split at hv
     · rename_i size hs
       simp only [hs]
       split at hv
       · rename_i hf
         simp only [hf]
         exact partsV_sim a hv fun l l' hl hv => vBuild_sim s hl kh hv
       · cases hv
     · cases hv
   · cases hv
 · have hx : (opX E.P o).f E A' σ K = opK E o A' σ K := opX_eq E o A' σ K
   unfold opK at hx
   rw [hop] at hx
   simp only at hx ⊢
   rw [← hx]
   unfold opX
   rw [hop]
   simp only
   split at hv
   · rename_i elem hs
     simp only [hs]
     split at hv
     · rename_i size zero hz hzl
       simp only [hz, hzl]
       split at hv
       · rename_i h1 h2
         simp only [h1, h2]
         split at hv
         · rename_i hf
           simp only [hf]
           rw [repK_eq]
           refine partsV_sim a hv fun l l' hl hv => ?_
           have := vBuildS_sim (σb := σb) (B := B) s hl k hv
           unfold rBuildS at this
           rwa [repK_eq] at this
         · cases hv
       · cases hv
     · cases hv
   · cases hv
 · split at hv
   · rename_i h1
     refine evV_sim a hv fun v w rv hv => ?_
     show loadK E.P _ w σ K = true
     rw [loadK_one h1]
     exact vLd_sim s rv kh hv
   · rename_i n h1 h2
     refine evV_sim a hv fun v w rv hv => ?_
     show loadK E.P _ w σ K = true
     rw [loadK_agg h1 h2]
     exact vLdN_sim s (by omega) rv kh hv
   · cases hv
 · split at hv
   · rename_i n h1
     refine evV_sim a hv fun v w rv hv => ?_
     refine evV_sim a hv fun v2 w2 rv2 hv => ?_
     show storeK E.P _ w w2 σ _ = true
     rw [storeK_r h1]
     refine vSt_sim s rv rv2 (fun h' σ' f s' hk => ?_) hv
     exact k c h' σ' undV undef (.refl c) f s' (.tuple (a' := []) rfl fun k v w e => by simp at e) hk
   · cases hv
 · refine evV_sim a hv fun v w rv hv => ?_
   show rNil E.P w (fun v => K v σ) = true
   exact vNil_sim rv kh hv
 · split at hv
   · refine evV_sim a hv fun v w rv hv => ?_
     refine evV_sim a hv fun v2 w2 rv2 hv => ?_
     rw [← rBin_eq]
     exact vAgg_sim rv rv2 kh hv
   · refine evV_sim a hv fun v w rv hv => ?_
     refine evV_sim a hv fun v2 w2 rv2 hv => ?_
     rw [← rBin_eq]
     exact vBin_sim s.ηs rv rv2 kh hv
 · exact evV_sim a hv fun v w rv hv => vUn_sim rv kh hv
 · split at hv
   · rename_i j kk h1 h2
     refine evV_sim a hv fun v w rv hv => ?_
     rw [convK_i h1 h2]
     exact vInt_sim rv kh hv
   · cases hv
 · split at hv
   · rename_i t x hv0 hi
     refine evV_sim a hv fun v w rv hv => ?_
     unfold notIface at hi
     split at hi
     · cases hi
     · rename_i d hd hu
       have hw := kh _ _ (.iface (t := t) rv) hv
       simp only [hu]
       cases d <;> first | exact hw | exact (hd _ rfl).elim
     · cases hi
   · cases hv
 · split at hv
   · refine evsV_sim a hv fun vs ws ra hv => ?_
     refine evsV_sim a hv fun vs2 ws2 ra2 hv => ?_
     exact kh _ _ (.func ra.len ra2.len ra.rd ra2.rd) hv
   · split at hv
     · rename_i x h1 h2
       simp only [h1, h2]
       exact evV_sim a hv fun v w rv hv => kh _ _ (.meth rv) hv
     · cases hv
   · cases hv
 · split at hv
   · rename_i fd hf
     split at hv
     · rename_i n hn
       refine evV_sim a hv fun v w rv hv => ?_
       rw [fieldAddrK_r hf hn]
       exact vFld_sim rv kh hv
     · cases hv
   · cases hv
 · split at hv
   · rename_i fd hf
     split at hv
     · rename_i h1
       refine evV_sim a hv fun v w rv hv => ?_
       rw [fieldK_one hf h1]
       exact vField_sim rv kh hv
     · rename_i n h1 h2
       refine evV_sim a hv fun v w rv hv => ?_
       rw [fieldK_agg hf h1 h2]
       exact vFieldN_sim rv kh hv
     · cases hv
   · cases hv
 · split at hv
   · rename_i el he
     split at hv
     · rename_i n hn
       refine evV_sim a hv fun v w rv hv => ?_
       refine evV_sim a hv fun v2 w2 rv2 hv => ?_
       rw [indexAddrK_s he hn]
       exact vIdx_sim s rv rv2 kh hv
     · cases hv
   · cases hv
 · split at hv
   · rename_i hu
     refine evV_sim a hv fun v w rv hv => ?_
     refine evV_sim a hv fun v2 w2 rv2 hv => ?_
     rw [indexK_t hu]
     exact vStrAt_sim rv rv2 kh hv
   · cases hv
 · split at hv
   · rename_i t x lo hi mx _ hb
     have := sliceV_sim s a kh hv
     unfold bndOk at hb
     cases mx <;> cases hi <;> first | exact this | cases hb
   · cases hv
 · exact makeSliceV_sim s a k hv
 · exact vNewMap_sim s k hv
 · exact lookupV_sim s a k hv
 · exact mapUpV_sim s a k hv
 · exact mapUpV_sim s a k hv
 · refine evV_sim a hv fun v w rv hv => ?_
   show rExt _ w (fun v => K v σ) = true
   exact vExt_sim rv kh hv
 · exact callV_sim r s a k hv
 · cases hv
end
end Go.Am
