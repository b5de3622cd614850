/- AM, an abstract machine for the model's code: its state, its operations, its evaluator: plain definitions, no theorem about any program. -/
import Derived.OrdersIn
import Derived.RangeFuncIn
import Derived.RangeFuncLeaves
import Derived.Below
import GoSem.Dispatch
import Derived.RangeFuncRecord
import Derived.Laws.StructEq
import Derived.Laws.MakeOwn
import Derived.MapKept
import Derived.Laws.IdiomStrings
import Derived.Laws.BytesArg

namespace Go.Am
abbrev zI : Value := .int .i64 (.ofNat 0)
abbrev zS : Value := .string ⟨⟨[]⟩⟩
abbrev zL : Value := .slice none 0 0
abbrev zF : Value := .bool false

inductive Tr (α : Type) where
 | leaf
 | node (v : Option α) (l r : Tr α)

namespace Tr
variable {α : Type}
def get : Tr α → Nat → Option α
 | leaf, _ => none
 | node v l r, n => if n = 0 then v else if n % 2 = 1 then l.get (n / 2) else r.get (n / 2 - 1)
def putF (x : α) : Nat → Tr α → Nat → Tr α
 | 0, t, _ => t
 | f + 1, leaf, n => if n = 0 then node (some x) leaf leaf else if n % 2 = 1 then node none (putF x f leaf (n / 2)) leaf else node none leaf (putF x f leaf (n / 2 - 1))
 | f + 1, node v l r, n => if n = 0 then node (some x) l r else if n % 2 = 1 then node v (putF x f l (n / 2)) r else node v l (putF x f r (n / 2 - 1))
def put (t : Tr α) (n : Nat) (x : α) : Tr α := putF x (n + 1) t n
end Tr

/-! ### what the kernel runs: by recursors, the answer a Bool -/
section comb
variable {α : Type} {β : Type}
noncomputable def ncase (n : Nat) (z : β) (s : Nat → β) : β := Nat.rec (motive := fun _ => β) z (fun p _ => s p) n
noncomputable def bcase (b : Bool) (t f : β) : β := Bool.rec (motive := fun _ => β) f t b
noncomputable def ocase (o : Option α) (z : β) (s : α → β) : β := Option.rec (motive := fun _ => β) z s o
noncomputable def icase (n : Int) (z : Nat → β) (s : Nat → β) : β := Int.rec (motive := fun _ => β) z s n
noncomputable def lcase (l : List α) (z : β) (s : α → List α → β) : β := List.rec (motive := fun _ => β) z (fun a t _ => s a t) l
noncomputable def nrec (z : β) (s : Nat → β → β) (n : Nat) : β := Nat.rec (motive := fun _ => β) z s n
noncomputable def lrec (z : β) (s : α → List α → β → β) (l : List α) : β := List.rec (motive := fun _ => β) z s l
noncomputable def trec (z : β) (s : Option α → Tr α → Tr α → β → β → β) (t : Tr α) : β := Tr.rec (motive := fun _ => β) z s t
noncomputable def tcase (t : Tr α) (z : β) (s : Option α → Tr α → Tr α → β) : β := Tr.rec (motive := fun _ => β) z (fun v l r _ _ => s v l r) t
noncomputable def crec (skip : β) (region : Array Oper → Bool → β) (seq : β → β → β) (cond : Operand → β → β → β) (block : Nat → β → β) (loop scope : β → β)
 (range : Operand → Array Tmp → Code → Code → β) (exit : Nat → β) (label ret bad : β) (c : Code) : β :=
 Code.rec (motive := fun _ => β) skip (fun _ ops draw => region ops draw) (fun _ _ a b => seq a b) (fun c _ _ a b => cond c a b) (fun id _ h => block id h) (fun _ h => loop h)
  (fun f ps a b _ _ => range f ps a b) exit (fun _ h => scope h) (fun _ => label) (fun _ => bad) ret (fun _ => bad) c
end comb
noncomputable def getK {α : Type} (t : Tr α) (n : Nat) (k : α → Bool) : Bool :=
 trec (β := Nat → Bool) (fun _ => false) (fun v _ _ gl gr n => ncase n (ocase v false k) fun p => ncase (Nat.mod p 2) (gl (Nat.div p 2)) fun _ => gr (Nat.div p 2)) t n
noncomputable def putK {α : Type} (x : α) (f : Nat) : Tr α → Nat → (Tr α → Bool) → Bool :=
 nrec (β := Tr α → Nat → (Tr α → Bool) → Bool) (fun t _ k => k t)
  (fun _ ih t n k => tcase t
   (ncase n (k (.node (some x) .leaf .leaf)) fun p => ncase (Nat.mod p 2) (ih .leaf (Nat.div p 2) fun c => k (.node none c .leaf)) fun _ => ih .leaf (Nat.div p 2) fun c => k (.node none .leaf c))
   (fun v l r => ncase n (k (.node (some x) l r)) fun p => ncase (Nat.mod p 2) (ih l (Nat.div p 2) fun c => k (.node v c r)) fun _ => ih r (Nat.div p 2) fun c => k (.node v l c))) f
noncomputable def forceN (n : Nat) (k : Nat → Bool) : Bool := ncase n (k 0) fun p => k (Nat.succ p)
noncomputable def forceI (n : Int) (k : Int → Bool) : Bool := icase n (fun m => forceN m fun m => k (.ofNat m)) (fun m => forceN m fun m => k (.negSucc m))
noncomputable def forceB (b : Bool) (k : Bool → Bool) : Bool := bcase b (k true) (k false)
noncomputable def nthK {α : Type} (l : List α) (i : Nat) (k : α → Bool) : Bool :=
 lrec (β := Nat → Bool) (fun _ => false) (fun a _ ih i => ncase i (k a) fun p => ih p) l i
noncomputable def setNK {α : Type} (v : α) (l : List α) (i : Nat) (k : List α → Bool) : Bool :=
 lrec (β := Nat → (List α → Bool) → Bool) (fun _ k => k []) (fun a t ih i k => ncase i (k (v :: t)) fun p => ih p fun t' => k (a :: t')) l i k
noncomputable def layK {α : Type} (l : List α) (k : List α → Bool) : Bool :=
 lrec (β := (List α → Bool) → Bool) (fun k => k []) (fun a _ ih k => ih fun t => k (a :: t)) l k
noncomputable def appK {α : Type} (l m : List α) (k : List α → Bool) : Bool :=
 lrec (β := (List α → Bool) → Bool) (fun k => k m) (fun a _ ih k => ih fun t => k (a :: t)) l k
noncomputable def takeK {α : Type} (n : Nat) (l : List α) (k : List α → Bool) : Bool :=
 nrec (β := List α → (List α → Bool) → Bool) (fun _ k => k []) (fun _ ih l k => lcase l false fun a t => ih t fun t' => k (a :: t')) n l k
noncomputable def dropK {α : Type} (n : Nat) (l : List α) (k : List α → Bool) : Bool :=
 nrec (β := List α → Bool) (fun l => k l) (fun _ ih l => lcase l false fun _ t => ih t) n l
noncomputable def overK {α : Type} (new : List α) (l : List α) (k : List α → Bool) : Bool :=
 lrec (β := List α → (List α → Bool) → Bool) (fun l k => k l) (fun a _ ih l k => lcase l false fun _ t => ih t fun t' => k (a :: t')) new l k
noncomputable def spliceK {α : Type} (off : Nat) (new l : List α) (k : List α → Bool) : Bool :=
 nrec (β := List α → (List α → Bool) → Bool) (fun l k => overK new l k) (fun _ ih l k => lcase l false fun a t => ih t fun t' => k (a :: t')) off l k
noncomputable def lenK {α : Type} (l : List α) (k : Nat → Bool) : Bool :=
 lrec (β := Nat → Bool) (fun n => k n) (fun _ _ ih n => forceN (Nat.succ n) ih) l 0
noncomputable def repK {α : Type} (z : List α) (n : Nat) (k : List α → Bool) : Bool :=
 nrec (β := List α → Bool) (fun acc => k acc) (fun _ ih acc => appK z acc ih) n []

/-! ### the state -/
inductive CK where
 | exact
 | grown (olds : List Nat)
 | stale
 | ro
 /-- of others: read, and written with what is there -/
 | rs
structure Tm where
 t : Tr Value
 n : Nat
noncomputable def tmK (T : Tm) (i : Nat) (k : Value → Bool) : Bool := getK T.t i k
noncomputable def setTK (v : Value) (T : Tm) (i : Nat) (k : Tm → Bool) : Bool :=
 match Nat.blt i T.n with
 | true => putK v (Nat.succ i) T.t i fun t => k ⟨t, T.n⟩
 | false => false
noncomputable def layTK (n : Nat) (args : List Value) (k : Tm → Bool) : Bool :=
 lrec (β := Nat → Tm → Bool) (fun _ T => k T) (fun a _ ih i T => setTK a T i fun T => forceN (Nat.succ i) fun i => ih i T) args 0 ⟨.leaf, n⟩
inductive AObj where
 | dead
 | cells (vs : List Value) (elem : TypeId) (k : CK)
 | map (es : List MapEntry) (clock : Nat)
 | loop (tmps : Tm) (params : List Tmp) (assign body : Code) (state : LoopState) (pending : Option Code)
 | defers
 /-- over a map: which, its clock at the start, the stamps that have come, its clock at the last one -/
 | iter (m : Option Nat) (since : Nat) (seen : List Nat) (last : Nat)
structure St where
 h : Tr AObj
 n : Nat
inductive AExit where
 | normal
 | exit (id : Nat)
 | ret
structure AAct where
 tmps : Tm
 marks : List Nat
 /-- how many package-level variables there are -/
 g : Nat

abbrev VK := Value → St → Bool
abbrev CallT := FuncId → List Value → St → VK → Bool

def flat0 : Value → Bool
 | .bool _ | .int .. | .string _ | .nilFunc | .nilIface | .pointer none | .slice none _ _ | .map none => true
 | _ => false
def oneCell : Value → Bool
 | .agg _ | .tuple _ => false
 | _ => true
noncomputable def allB {α : Type} (f : α → Bool) (l : List α) : Bool := lrec (β := Bool) true (fun a _ ih => bcase (f a) ih false) l
def flat1 : Value → Bool
 | .agg cs => cs.toList.all flat0
 | v => flat0 v

noncomputable def evK (A : AAct) (x : Operand) (k : Value → Bool) : Bool :=
 match x with
 | .tmp t => tmK A.tmps t k
 | .const v => match flat1 v with | true => k v | false => false
 | .global g => match Nat.blt g A.g with | true => k (.pointer (some ⟨g, 0, none⟩)) | false => false
 | .func f => k (.func (.func f) #[] #[])
noncomputable def evsK (A : AAct) (xs : List Operand) (k : List Value → Bool) : Bool :=
 lrec (β := (List Value → Bool) → Bool) (fun k => k []) (fun x _ ih k => evK A x fun v => ih fun vs => k (v :: vs)) xs k
noncomputable def putAK (A : AAct) (d : Option Tmp) (v : Value) (k : AAct → Bool) : Bool :=
 match d with
 | some d => setTK v A.tmps d fun ts => k ⟨ts, A.marks, A.g⟩
 | none => k A

noncomputable def newK (σ : St) (o : AObj) (k : Nat → St → Bool) : Bool :=
 putK o (Nat.succ σ.n) σ.h σ.n fun h => forceN (Nat.succ σ.n) fun n => k σ.n ⟨h, n⟩
noncomputable def setK (σ : St) (i : Nat) (o : AObj) (k : St → Bool) : Bool := putK o (Nat.succ i) σ.h i fun h => k ⟨h, σ.n⟩
noncomputable def cellsK (σ : St) (i : Nat) (k : List Value → TypeId → CK → Bool) : Bool :=
 getK σ.h i fun o => match o with | .cells vs e c => k vs e c | _ => false
noncomputable def readK (σ : St) (i off n : Nat) (k : List Value → Bool) : Bool := cellsK σ i fun vs _ _ => dropK off vs fun l => takeK n l k
noncomputable def killK (l : List Nat) (h : Tr AObj) (k : Tr AObj → Bool) : Bool :=
 lrec (β := Tr AObj → (Tr AObj → Bool) → Bool) (fun h k => k h) (fun i _ ih h k => putK .dead (Nat.succ i) h i fun h => ih h k) l h k
def eqI : Int → Int → Bool
 | .ofNat a, .ofNat b => Nat.beq a b
 | .negSucc a, .negSucc b => Nat.beq a b
 | _, _ => false
def kindEq : IntKind → IntKind → Bool
 | .i8, .i8 | .i16, .i16 | .i32, .i32 | .i64, .i64 | .u8, .u8 | .u16, .u16 | .u32, .u32 | .u64, .u64 => true
 | _, _ => false
noncomputable def asIs (new : List Value) : List Value → Bool :=
 lrec (β := List Value → Bool) (fun _ => true) (fun a _ ih l => lcase l false fun b t => match a, b with
  | .int j x, .int k y => match kindEq j k with
   | true => match eqI x y with | true => ih t | false => false
   | false => false
  | _, _ => false) new
noncomputable def writeK (σ : St) (i off : Nat) (new : List Value) (k : St → Bool) : Bool :=
 cellsK σ i fun vs e c =>
  match c with
  | .exact => spliceK off new vs fun vs => setK σ i (.cells vs e .exact) k
  | .grown olds => dropK off vs fun l => match asIs new l with
   | true => k σ
   | false => spliceK off new vs fun vs => killK olds σ.h fun h => putK (.cells vs e (.grown [])) (Nat.succ i) h i fun h => k ⟨h, σ.n⟩
  | .rs => dropK off vs fun l => match asIs new l with | true => k σ | false => false
  | _ => false

/-! ### numbers -/
def ltI : Int → Int → Bool
 | .ofNat a, .ofNat b => Nat.blt a b
 | .ofNat _, .negSucc _ => false
 | .negSucc _, .ofNat _ => true
 | .negSucc a, .negSucc b => Nat.blt b a
def wrapI (k : IntKind) (n : Int) : Int :=
 match k, n with
 | .i64, .ofNat m => match Nat.blt m 9223372036854775808 with | true => .ofNat m | false => k.wrap n
 | .i64, .negSucc m => match Nat.blt m 9223372036854775808 with | true => .negSucc m | false => k.wrap n
 | .u64, .ofNat m => match Nat.blt m 18446744073709551616 with | true => .ofNat m | false => k.wrap n
 | .u8, .ofNat m => match Nat.blt m 256 with | true => .ofNat m | false => k.wrap n
 | k, n => k.wrap n
noncomputable def intK (k : IntKind) (n : Int) (K : Value → Bool) : Bool := forceI (wrapI k n) fun n => K (.int k n)
noncomputable def boolK (b : Bool) (K : Value → Bool) : Bool := forceB b fun b => K (.bool b)
noncomputable def intBinK (op : BinOp) (k : IntKind) (x y : Int) (K : Value → Bool) : Bool :=
 match op with
 | .add => intK k (Int.add x y) K
 | .sub => intK k (Int.sub x y) K
 | .mul => intK k (Int.mul x y) K
 | .quo => match eqI y 0 with | true => false | false => intK k (Int.tdiv x y) K
 | .rem => match eqI y 0 with | true => false | false => forceI (Int.tmod x y) fun n => K (.int k n)
 | .and => forceI (k.wrap (BitVec.ofInt k.bits x &&& BitVec.ofInt k.bits y).toNat) fun n => K (.int k n)
 | .or => forceI (k.wrap (BitVec.ofInt k.bits x ||| BitVec.ofInt k.bits y).toNat) fun n => K (.int k n)
 | .xor => forceI (k.wrap (BitVec.ofInt k.bits x ^^^ BitVec.ofInt k.bits y).toNat) fun n => K (.int k n)
 | .andNot => forceI (k.wrap (BitVec.ofInt k.bits x &&& ~~~ BitVec.ofInt k.bits y).toNat) fun n => K (.int k n)
 | .eql => boolK (eqI x y) K
 | .neq => boolK (!eqI x y) K
 | .lss => boolK (ltI x y) K
 | .leq => boolK (!ltI y x) K
 | .gtr => boolK (ltI y x) K
 | .geq => boolK (!ltI x y) K
 | _ => false
noncomputable def shiftK (op : BinOp) (k : IntKind) (x y : Int) (K : Value → Bool) : Bool :=
 match ltI y 0 with
 | true => false
 | false =>
  match op with
  | .shl => intK k (x * 2 ^ (min y.toNat k.bits)) K
  | .shr => forceI (x.fdiv (2 ^ (min y.toNat k.bits))) fun n => K (.int k n)
  | _ => false

/-! ### texts -/
noncomputable def eqL8 (a b : List UInt8) : Bool :=
 lrec (β := List UInt8 → Bool) (fun b => match b with | [] => true | _ => false)
  (fun x _ ih b => match b with | [] => false | y :: b => match Nat.beq x.toNat y.toNat with | true => ih b | false => false) a b
noncomputable def ltL8 (a b : List UInt8) : Bool :=
 lrec (β := List UInt8 → Bool) (fun b => match b with | [] => false | _ => true)
  (fun x _ ih b => match b with | [] => false | y :: b => match Nat.blt x.toNat y.toNat with | true => true | false => match Nat.beq x.toNat y.toNat with | true => ih b | false => false) a b
noncomputable def strBinK (op : BinOp) (a b : ByteArray) (K : Value → Bool) : Bool :=
 match op with
 | .add => lenK a.data.toList fun n => lenK b.data.toList fun m => match Nat.blt (n + m) 9223372036854775808 with
  | true => appK a.data.toList b.data.toList fun l => K (.string ⟨⟨l⟩⟩)
  | false => false
 | .eql => boolK (eqL8 a.data.toList b.data.toList) K
 | .neq => boolK (!eqL8 a.data.toList b.data.toList) K
 | .lss => boolK (ltL8 a.data.toList b.data.toList) K
 | .leq => boolK (ltL8 a.data.toList b.data.toList || eqL8 a.data.toList b.data.toList) K
 | .gtr => boolK (!(ltL8 a.data.toList b.data.toList || eqL8 a.data.toList b.data.toList)) K
 | .geq => boolK (!ltL8 a.data.toList b.data.toList) K
 | _ => false

section ops
variable (P : Program)
def isAggT (t : TypeId) : Option Bool := (P.underlying t).map fun | .struct _ | .array _ _ => true | _ => false
def sizeT (t : TypeId) : Option Nat := (P.info? t).map (·.size)
def zeroT (t : TypeId) : Option (List Value) := ((P.info? t).bind (·.zero)).map (·.cells.toList)

noncomputable def loadK (t : TypeId) (a : Value) (σ : St) (K : VK) : Bool :=
 match a with
 | .pointer (some ⟨i, o, none⟩) =>
  match isAggT P t with
  | some false => cellsK σ i fun vs _ _ => nthK vs o fun v => K v σ
  | some true => match sizeT P t with
   | some n => readK σ i o n fun l => K (.agg ⟨l⟩) σ
   | none => false
  | none => false
 | _ => false
noncomputable def cellsOfK (v : Value) (k : List Value → Bool) : Bool :=
 match v with
 | .agg cs => match allB oneCell cs.toList with | true => k cs.toList | false => false
 | .tuple _ => false
 | v => k [v]
noncomputable def storeK (t : TypeId) (a x : Value) (σ : St) (k : St → Bool) : Bool :=
 match a with
 | .pointer (some ⟨i, o, none⟩) =>
  match sizeT P t with
  | some n => cellsOfK x fun cs => lenK cs fun m => match Nat.beq m n with
   | true => writeK σ i o cs k
   | false => false
  | none => false
 | _ => false

noncomputable def bndK (d : Nat) (x : Option Value) (k : Nat → Bool) : Bool :=
 match x with
 | none => k d
 | some (.int _ (.ofNat n)) => k n
 | _ => false
noncomputable def boundsK (len cap : Nat) (lo hi mx : Option Value) (k : Nat → Nat → Nat → Bool) : Bool :=
 bndK cap mx fun m => bndK len hi fun h => bndK 0 lo fun l =>
  match Nat.ble l h, Nat.ble h m, Nat.ble m cap with
  | true, true, true => k l h m
  | _, _, _ => false
def isSlice (t : TypeId) : Option TypeId := match P.underlying t with | some (.slice e) => some e | _ => none
noncomputable def sliceK (t : TypeId) (x : Value) (lo hi mx : Option Value) (σ : St) (K : Value → Bool) : Bool :=
 match x with
 | .string s =>
  match P.underlying t, mx with
  | some .string, none => lenK s.data.toList fun n => boundsK n n lo hi none fun l h _ => takeK h s.data.toList fun a => dropK l a fun b => K (.string ⟨⟨b⟩⟩)
  | _, _ => false
 | .slice none len cap =>
  match isSlice P t with
  | some elem => match sizeT P elem with
   | some _ => boundsK len cap lo hi mx fun l h m => forceN (h - l) fun n => forceN (m - l) fun c => K (.slice none n c)
   | none => false
  | none => false
 | .slice (some ⟨i, o, sp⟩) len cap =>
  match isSlice P t with
  | some elem => match sizeT P elem with
   | some size => boundsK len cap lo hi mx fun l h m => forceN (h - l) fun n => forceN (m - l) fun c => forceN (o + l * size) fun o' =>
    match sp, mx with
    | none, _ => match Nat.beq m l with | true => K (.slice (some ⟨i, o, none⟩) n c) | false => K (.slice (some ⟨i, o', none⟩) n c)
    | some 0, some _ => match Nat.beq m l with | true => K (.slice (some ⟨i, o, none⟩) n c) | false => K (.slice (some ⟨i, o', none⟩) n c)
    | some 0, none => match Nat.beq m l with
     | true => K (.slice (some ⟨i, 0, some 1⟩) 0 0)
     | false => cellsK σ i fun _ e ck => match ck, sizeT P e with
      | .exact, _ => false
      | _, some q => match Nat.beq q size with | true => K (.slice (some ⟨i, o', some 0⟩) n c) | false => false
      | _, none => false
    | some _, _ => K (.slice (some ⟨i, 0, some 1⟩) 0 0)
   | none => false
  | none => false
 | .pointer (some ⟨i, o, none⟩) =>
  match P.underlying t with
  | some (.array len elem) => match sizeT P elem with
   | some size => boundsK len len lo hi mx fun l h m => forceN (h - l) fun n => forceN (m - l) fun c => forceN (o + l * size) fun o' =>
    match Nat.beq m l with | true => K (.slice (some ⟨i, o, none⟩) n c) | false => K (.slice (some ⟨i, o', none⟩) n c)
   | none => false
  | _ => false
 | _ => false
noncomputable def indexAddrK (t : TypeId) (x ix : Value) (K : Value → Bool) : Bool :=
 match ix with
 | .int _ (.ofNat i) =>
  match x with
  | .slice (some ⟨b, o, sp⟩) len _ =>
   match sp with
   | some (_ + 1) => false
   | _ => match isSlice P t with
    | some elem => match sizeT P elem, Nat.blt i len with
     | some size, true => forceN (o + i * size) fun o => K (.pointer (some ⟨b, o, none⟩))
     | _, _ => false
    | none => false
  | .pointer (some ⟨b, o, none⟩) =>
   match P.underlying t with
   | some (.array len elem) => match sizeT P elem, Nat.blt i len with
    | some size, true => forceN (o + i * size) fun o => K (.pointer (some ⟨b, o, none⟩))
    | _, _ => false
   | _ => false
  | _ => false
 | _ => false
def fieldOf (s : TypeId) (f : Nat) : Option Field := match P.underlying s with | some (.struct fs) => fs[f]? | _ => none
noncomputable def fieldAddrK (s : TypeId) (x : Value) (f : Nat) (K : Value → Bool) : Bool :=
 match x with
 | .pointer (some ⟨b, o, none⟩) =>
  match fieldOf P s f with
  | some fd => match sizeT P fd.type with
   | some (_ + 1) => forceN (o + fd.offset) fun o => K (.pointer (some ⟨b, o, none⟩))
   | _ => false
  | none => false
 | _ => false
noncomputable def partK (t : TypeId) (cs : List Value) (off : Nat) (K : Value → Bool) : Bool :=
 match isAggT P t with
 | some false => nthK cs off K
 | some true => match sizeT P t with
  | some n => dropK off cs fun l => takeK n l fun l => K (.agg ⟨l⟩)
  | none => false
 | none => false
noncomputable def fieldK (t : TypeId) (x : Value) (f : Nat) (K : Value → Bool) : Bool :=
 match x with
 | .agg cs => match fieldOf P t f with
  | some fd => partK P fd.type cs.toList fd.offset K
  | none => false
 | _ => false
noncomputable def indexK (t : TypeId) (x ix : Value) (K : Value → Bool) : Bool :=
 match ix with
 | .int _ (.ofNat i) =>
  match x with
  | .agg cs => match P.underlying t with
   | some (.array len elem) => match sizeT P elem, Nat.blt i len with
    | some size, true => partK P elem cs.toList (i * size) K
    | _, _ => false
   | _ => false
  | .string s => match P.underlying t with
   | some .string => nthK s.data.toList i fun b => forceN b.toNat fun n => K (.int .u8 (.ofNat n))
   | _ => false
  | _ => false
 | _ => false
noncomputable def fillK (place : Nat → Option (Nat × Nat)) (parts : List (Nat × Value)) (cells : List Value) (k : List Value → Bool) : Bool :=
 lrec (β := List Value → Bool) (fun cs => k cs)
  (fun p _ ih cs => match place p.1 with
   | some (off, size) => cellsOfK p.2 fun new => lenK new fun m => match Nat.beq m size with
    | true => spliceK off new cs ih
    | false => false
   | none => false) parts cells
noncomputable def partsK (A : AAct) (parts : List (Nat × Operand)) (k : List (Nat × Value) → Bool) : Bool :=
 lrec (β := (List (Nat × Value) → Bool) → Bool) (fun k => k []) (fun p _ ih k => evK A p.2 fun v => ih fun l => k ((p.1, v) :: l)) parts k
def placesOf (fields : List Field) : Option (List (Nat × Nat)) := fields.mapM fun f => (sizeT P f.type).map fun s => (f.offset, s)
noncomputable def buildK (A : AAct) (t : TypeId) (parts : List (Nat × Operand)) (K : Value → Bool) : Bool :=
 match zeroT P t, P.underlying t with
 | some zero, some (.struct fields) => match placesOf P fields.toList with
  | some pl => match allB flat0 zero with
   | true => partsK A parts fun ps => fillK (pl[·]?) ps zero fun cs => K (.agg ⟨cs⟩)
   | false => false
  | none => false
 | some zero, some (.array _ elem) => match sizeT P elem with
  | some size => match allB flat0 zero with
   | true => partsK A parts fun ps => fillK (fun i => some (i * size, size)) ps zero fun cs => K (.agg ⟨cs⟩)
   | false => false
  | none => false
 | _, _ => false
noncomputable def buildSliceK (A : AAct) (t : TypeId) (len : Nat) (parts : List (Nat × Operand)) (σ : St) (K : VK) : Bool :=
 match isSlice P t with
 | some elem => match sizeT P elem, zeroT P elem with
  | some (size + 1), some zero => match Nat.ble (len * (size + 1)) 16777216, Nat.beq zero.length (size + 1) with
   | true, true => match allB flat0 zero with
    | true => repK zero len fun cs => partsK A parts fun ps => fillK (fun i => some (i * (size + 1), size + 1)) ps cs fun cs =>
     newK σ (.cells cs elem .exact) fun i σ => K (.slice (some ⟨i, 0, none⟩) len len) σ
    | false => false
   | _, _ => false
  | _, _ => false
 | none => false
noncomputable def allocK (t : TypeId) (σ : St) (K : VK) : Bool :=
 match zeroT P t with
 | some zero => match allB flat0 zero with
  | true => layK zero fun zero => newK σ (.cells zero t .exact) fun i σ => K (.pointer (some ⟨i, 0, none⟩)) σ
  | false => false
 | none => false
noncomputable def boxK (t : TypeId) (v : Value) (σ : St) (K : VK) : Bool :=
 cellsOfK v fun cs => newK σ (.cells cs t .exact) fun i σ => K (.pointer (some ⟨i, 0, none⟩)) σ
noncomputable def makeSliceK (t : TypeId) (len cap : Value) (σ : St) (K : VK) : Bool :=
 match len, cap with
 | .int _ (.ofNat l), .int _ (.ofNat c) =>
  match isSlice P t with
  | some elem => match P.info? elem, zeroT P elem with
   | some info, some zero => match Nat.ble l c, Nat.ble (info.bytes * c) 1099511627776, Nat.ble c 1099511627776, Nat.beq zero.length info.size, info.size with
    | true, true, true, true, _ + 1 => match allB flat0 zero with
     | true => match Nat.ble c 65536 with
      | true => repK zero c fun cs => newK σ (.cells cs elem .exact) fun i σ => K (.slice (some ⟨i, 0, none⟩) l c) σ
      | false => newK σ .dead fun i σ => K (.slice (some ⟨i, 0, none⟩) l c) σ
     | false => false
    | _, _, _, _, _ => false
   | _, _ => false
  | none => false
 | _, _ => false

/-! ### equality -/
def plainT (t : TypeId) : Bool := match P.underlying t with | some (.int _) | some .string | some .bool => true | _ => false
noncomputable def eqCellK (t : TypeId) (a b : Value) (k : Bool → Bool) : Bool :=
 match P.underlying t with
 | some (.int _) => match a, b with
  | .int j x, .int l y => match kindEq j l with | true => forceB (eqI x y) k | false => false
  | _, _ => false
 | some .string => match a, b with
  | .string x, .string y => forceB (eqL8 x.data.toList y.data.toList) k
  | _, _ => false
 | some .bool => match a, b with
  | .bool x, .bool y => forceB (x == y) k
  | _, _ => false
 | _ => false
noncomputable def eqCellsK (fs : List Field) (a b : List Value) (k : Bool → Bool) : Bool :=
 lrec (β := List Value → List Value → Bool) (fun _ _ => k true)
  (fun f _ ih a b => lcase a false fun x a => lcase b false fun y b => eqCellK P f.type x y fun e => match e with | true => ih a b | false => k false) fs a b
def plainFields : Nat → List Field → Bool
 | _, [] => true
 | i, f :: fs => f.name != "_" && f.offset == i && plainT P f.type && plainFields (i + 1) fs
def plainS (t : TypeId) : Option (List Field) :=
 match P.underlying t with
 | some (.struct fs) => if plainFields P 0 fs.toList && !P.stoodInHeld t && !P.eqGuardType P.depth t then some fs.toList else none
 | _ => none
noncomputable def equalK (t : TypeId) (a b : Value) (k : Bool → Bool) : Bool :=
 match a, b with
 | .agg xs, .agg ys => match plainS P t with
  | some fs => eqCellsK P fs xs.toList ys.toList k
  | none => false
 | .pointer (some _), .pointer none | .pointer none, .pointer (some _) => match P.underlying t with | some (.pointer _) => k false | _ => false
 | .pointer none, .pointer none => match P.underlying t with | some (.pointer _) => k true | _ => false
 | .slice (some _) _ _, .slice none _ _ | .slice none _ _, .slice (some _) _ _ => match P.underlying t with | some (.slice _) => k false | _ => false
 | .slice none _ _, .slice none _ _ => match P.underlying t with | some (.slice _) => k true | _ => false
 | .map (some _), .map none | .map none, .map (some _) => match P.underlying t with | some (.map _ _) => k false | _ => false
 | .map none, .map none => match P.underlying t with | some (.map _ _) => k true | _ => false
 | .func _ _ _, .nilFunc | .nilFunc, .func _ _ _ => match P.underlying t with | some (.func _ _ _) => k false | _ => false
 | .nilFunc, .nilFunc => match P.underlying t with | some (.func _ _ _) => k true | _ => false
 | .iface _ _, .nilIface | .nilIface, .iface _ _ => match P.underlying t with | some (.interface _) => k false | _ => false
 | .bool x, .bool y => match P.underlying t with | some .bool => forceB (x == y) k | _ => false
 | _, _ => false
noncomputable def binK (op : BinOp) (t : TypeId) (a b : Value) (K : Value → Bool) : Bool :=
 match a, b with
 | .int k x, .int k' y => match op with
  | .shl | .shr => shiftK op k x y K
  | _ => match kindEq k k' with | true => intBinK op k x y K | false => false
 | .string x, .string y => strBinK op x y K
 | a, b => match op with
  | .eql => equalK P t a b fun e => boolK e K
  | .neq => equalK P t a b fun e => boolK (!e) K
  | _ => false
noncomputable def unK (op : UnOp) (a : Value) (K : Value → Bool) : Bool :=
 match op, a with
 | .neg, .int k n => intK k (Int.sub 0 n) K
 | .xor, .int k n => forceI (k.wrap (BitVec.ofInt k.bits (if k.signed then -1 else k.max) ^^^ BitVec.ofInt k.bits n).toNat) fun n => K (.int k n)
 | .not, .bool b => boolK (!b) K
 | _, _ => false
noncomputable def u8sK (l : List UInt8) (k : List Value → Bool) : Bool :=
 lrec (β := (List Value → Bool) → Bool) (fun k => k []) (fun b _ ih k => forceN b.toNat fun n => ih fun t => k (.int .u8 (.ofNat n) :: t)) l k
noncomputable def bytesK (l : List Value) (k : List UInt8 → Bool) : Bool :=
 lrec (β := (List UInt8 → Bool) → Bool) (fun k => k []) (fun v _ ih k => match v with | .int .u8 (.ofNat n) => ih fun t => k (UInt8.ofNat n :: t) | _ => false) l k
noncomputable def convK (src dst : TypeId) (x : Value) (σ : St) (K : VK) : Bool :=
 match x with
 | .int _ n => match P.underlying src, P.underlying dst with
  | some _, some (.int k) => intK k n fun v => K v σ
  | _, _ => false
 | .string s => match P.underlying src, P.underlying dst with
  | some .string, some .string => K (.string s) σ
  | some .string, some (.slice e) => match P.underlying e, sizeT P e with
   | some (.int .u8), some 1 => u8sK s.data.toList fun l => lenK l fun n => newK σ (.cells l e (.grown [])) fun i σ => K (.slice (some ⟨i, 0, some 0⟩) n n) σ
   | _, _ => false
  | _, _ => false
 | .slice none _ _ => match P.underlying src, P.underlying dst with
  | some (.slice e), some .string => match P.underlying e with
   | some (.int .u8) => K (.string ⟨⟨[]⟩⟩) σ
   | _ => false
  | _, _ => false
 | .slice (some ⟨i, o, sp⟩) len _ => match P.underlying src, P.underlying dst, sp with
  | _, _, some (_ + 1) => false
  | some (.slice e), some .string, _ => match P.underlying e with
   | some (.int .u8) => readK σ i o len fun l => bytesK l fun l => K (.string ⟨⟨l⟩⟩) σ
   | _ => false
  | _, _, _ => false
 | _ => false

/-! ### maps -/
noncomputable def mapK (σ : St) (m : Value) (k : Option Nat → List MapEntry → Nat → Bool) : Bool :=
 match m with
 | .map none => k none [] 0
 | .map (some r) => getK σ.h r fun o => match o with | .map es c => k (some r) es c | _ => false
 | _ => false
noncomputable def keyEqK (t : TypeId) (a b : Value) (k : Bool → Bool) : Bool :=
 match a, b with
 | .agg _, .agg _ => equalK P t a b k
 | a, b => eqCellK P t a b k
noncomputable def findK (t : TypeId) (key : Value) (es : List MapEntry) (k : Option (Nat × MapEntry) → Bool) : Bool :=
 lrec (β := Nat → Bool) (fun _ => k none)
  (fun e _ ih i => keyEqK P t key e.key fun b => match b with | true => k (some (i, e)) | false => forceN (Nat.succ i) ih) es 0
def keyOk (t : TypeId) (key : Value) : Bool :=
 match flat1 key with
 | true => match plainT P t with
  | true => true
  | false => match plainS P t, key with
   | some fs, .agg cs => Nat.ble fs.length cs.toList.length
   | _, _ => false
 | false => false
def mapT (t : TypeId) : Option (TypeId × TypeId) := match P.underlying t with | some (.map k e) => some (k, e) | _ => none
def zeroV (t : TypeId) : Option Value := (P.info? t).bind (·.zero)
noncomputable def lookupK (t : TypeId) (x ix : Value) (ok : Bool) (σ : St) (K : VK) : Bool :=
 match mapT P t with
 | some (kt, et) => match keyOk P kt ix, zeroV P et with
  | true, some zero => mapK σ x fun _ es _ => findK P kt ix es fun r =>
   match r with
   | some (_, e) => match ok with | true => K (.tuple ⟨[e.val, .bool true]⟩) σ | false => K e.val σ
   | none => match flat1 zero with
    | true => match ok with | true => K (.tuple ⟨[zero, .bool false]⟩) σ | false => K zero σ
    | false => false
  | _, _ => false
 | none => false
noncomputable def mapUpdateK (t : TypeId) (m key x : Value) (σ : St) (k : St → Bool) : Bool :=
 match mapT P t with
 | some (kt, _) => match keyOk P kt key with
  | true => mapK σ m fun r es c => match r with
   | some r => findK P kt key es fun f =>
    match f with
    | some (i, e) => match Instr.sameBits 10000 e.key key with
     | true => setNK { e with val := x } es i fun es => setK σ r (.map es c) k
     | false => false
    | none => appK es [{ key := key, val := x, born := c }] fun es => forceN (Nat.succ c) fun c => setK σ r (.map es c) k
   | none => false
  | false => false
 | none => false
noncomputable def mapEntryK (t : TypeId) (m key : Value) (σ : St) (K : VK) : Bool :=
 match mapT P t with
 | some (kt, et) => match keyOk P kt key, zeroV P et with
  | true, some zero => mapK σ m fun r es c => match r with
   | some r => findK P kt key es fun f =>
    match f with
    | some (_, e) => match Instr.sameBits 10000 e.key key with
     | true => K (.tuple ⟨[e.val, .int .i64 (.ofNat e.born)]⟩) σ
     | false => false
    | none => match flat1 zero with
     | true => appK es [{ key := key, val := zero, born := c }] fun es => forceN (Nat.succ c) fun c' => setK σ r (.map es c') fun σ => K (.tuple ⟨[zero, .int .i64 (.ofNat c)]⟩) σ
     | false => false
   | none => false
  | _, _ => false
 | none => false
noncomputable def bornK (n : Nat) (es : List MapEntry) (k : Nat → MapEntry → Bool) : Bool :=
 lrec (β := Nat → Bool) (fun _ => false) (fun e _ ih i => match Nat.beq e.born n with | true => k i e | false => forceN (Nat.succ i) ih) es 0
noncomputable def entryStoreK (m s x : Value) (σ : St) (k : St → Bool) : Bool :=
 match s with
 | .int _ (.ofNat n) => mapK σ m fun r es c => match r with
  | some r => bornK n es fun i e => setNK { e with val := x } es i fun es => setK σ r (.map es c) k
  | none => false
 | _ => false
noncomputable def eraseK {α : Type} (l : List α) (i : Nat) (k : List α → Bool) : Bool :=
 lrec (β := Nat → (List α → Bool) → Bool) (fun _ k => k []) (fun a t ih i k => ncase i (k t) fun p => ih p fun t' => k (a :: t')) l i k
noncomputable def deleteK (argTypes : List TypeId) (m key : Value) (σ : St) (k : St → Bool) : Bool :=
 match argTypes with
 | t :: _ => match mapT P t with
  | some (kt, _) => match keyOk P kt key with
   | true => mapK σ m fun r es c => match r with
    | none => k σ
    | some r => findK P kt key es fun f => match f with
     | some (i, _) => eraseK es i fun es => setK σ r (.map es c) k
     | none => k σ
   | false => false
  | none => false
 | [] => false

/-! ### ranging over a map -/
noncomputable def memN (n : Nat) (l : List Nat) : Bool := lrec (β := Bool) false (fun m _ ih => bcase (Nat.beq m n) true ih) l
noncomputable def leftK (seen : List Nat) (es : List MapEntry) (k : List MapEntry → Bool) : Bool :=
 lrec (β := (List MapEntry → Bool) → Bool) (fun k => k []) (fun e _ ih k => bcase (memN e.born seen) (ih k) (ih fun t => k (e :: t))) es k
noncomputable def rangeMK (t : TypeId) (x : Value) (σ : St) (K : VK) : Bool :=
 match mapT P t with
 | some _ => match x with
  | .map none => newK σ (.iter none 0 [] 0) fun i σ => K (.pointer (some ⟨i, 0, none⟩)) σ
  | .map (some r) => getK σ.h r fun o => match o with
   | .map _ c => newK σ (.iter (some r) c [] c) fun i σ => K (.pointer (some ⟨i, 0, none⟩)) σ
   | _ => false
  | _ => false
 | none => false
noncomputable def nextK (it : Value) (σ : St) (K : VK) : Bool :=
 match it with
 | .pointer (some ⟨i, 0, none⟩) => getK σ.h i fun o => match o with
  | .iter none _ _ _ => K (.tuple ⟨[.bool false]⟩) σ
  | .iter (some r) since seen last => getK σ.h r fun o => match o with
   | .map es c => match allB (fun e => Nat.blt e.born since) es, Nat.ble since last with
    | true, true => leftK seen es fun l => match l with
     | [] => K (.tuple ⟨[.bool false]⟩) σ
     | e :: t => allB (fun e => appK seen [e.born] fun seen => setK σ i (.iter (some r) since seen c) fun σ => K (.tuple ⟨[.bool true, e.key, e.val]⟩) σ) (e :: t)
    | _, _ => false
   | _ => false
  | _ => false
 | _ => false
noncomputable def lastN (l : List Nat) (k : Nat → Bool) : Bool := lrec (β := Bool) false (fun n t ih => match t with | [] => k n | _ => ih) l
noncomputable def entryK (it : Value) (σ : St) (K : VK) : Bool :=
 match it with
 | .pointer (some ⟨i, 0, none⟩) => getK σ.h i fun o => match o with
  | .iter (some r) _ seen last => getK σ.h r fun o => match o with
   | .map es c => match Nat.beq c last with
    | true => lastN seen fun b => bornK b es fun _ e => K (.tuple ⟨[e.key, e.val]⟩) σ
    | false => false
   | _ => false
  | _ => false
 | _ => false
noncomputable def minsK (big : Bool) (l : List Value) (j : IntKind) (x : Int) (K : Value → Bool) : Bool :=
 lrec (β := Int → Bool) (fun x => K (.int j x)) (fun v _ ih x => match v with
  | .int _ y => bcase (bcase big (ltI x y) (ltI y x)) (ih y) (ih x)
  | _ => false) l x

/-! ### builtins -/
noncomputable def firstK (σ : St) (size n : Nat) (x : Value) (k : List Value → Bool) : Bool :=
 match x with
 | .slice none _ _ => match n with | 0 => k [] | _ => false
 | .slice (some ⟨i, o, sp⟩) _ _ => match n with
  | 0 => k []
  | n + 1 => match sp with
   | some (_ + 1) => false
   | _ => readK σ i o ((n + 1) * size) k
 | .string s => match size with
  | 1 => takeK n s.data.toList fun l => u8sK l k
  | _ => false
 | _ => false
noncomputable def lenVK (x : Value) (k : Nat → Bool) : Bool :=
 match x with
 | .slice _ n _ => k n
 | .string s => lenK s.data.toList k
 | _ => false
noncomputable def growK (elem : TypeId) (old new : List Value) (n : Nat) (from_ : Option (Nat × List Value × TypeId × List Nat)) (σ : St) (K : VK) : Bool :=
 appK old new fun cs =>
  match from_ with
  | none => newK σ (.cells cs elem (.grown [])) fun i σ => K (.slice (some ⟨i, 0, some 0⟩) n n) σ
  | some (b, vs, e, olds) => setK σ b (.cells vs e .stale) fun σ => newK σ (.cells cs elem (.grown (b :: olds))) fun i σ => K (.slice (some ⟨i, 0, some 0⟩) n n) σ
def catT : Option TypeDesc → Bool
 | some (.slice _) | some .string => true
 | _ => false
def spOk : Option Nat → Bool
 | none | some 0 => true
 | _ => false
noncomputable def inRowK (size : Nat) (new : List Value) (base : Option Addr) (sLen sCap need : Nat) (σ : St) (K : VK) : Bool :=
 match base with
 | some ⟨b, o, sp⟩ => match spOk sp, allB oneCell new with
  | true, true => forceN (o + sLen * size) fun at_ => writeK σ b at_ new fun σ => K (.slice (some ⟨b, o, sp⟩) need sCap) σ
  | _, _ => false
 | none => false
noncomputable def newRowK (elem : TypeId) (size : Nat) (new : List Value) (base : Option Addr) (sLen need : Nat) (σ : St) (K : VK) : Bool :=
 match base with
 | none => match sLen with | 0 => growK elem [] new need none σ K | _ => false
 | some ⟨b, o, none⟩ => readK σ b o (sLen * size) fun old => growK elem old new need none σ K
 | some ⟨b, o, some 0⟩ => cellsK σ b fun vs e c => lenK vs fun m => match Nat.beq (o + sLen * size) m, c, sizeT P e with
  | true, .grown olds, some q => match Nat.beq q size, allB oneCell new, Nat.beq e elem with
   | true, true, true => readK σ b o (sLen * size) fun old => growK elem old new need (some (b, vs, e, olds)) σ K
   | _, _, _ => false
  | _, _, _ => false
 | _ => false
noncomputable def appendK (argTypes : List TypeId) (s x : Value) (σ : St) (K : VK) : Bool :=
 match argTypes with
 | sT :: xT :: _ =>
  match isSlice P sT, catT (P.underlying xT) with
  | some elem, true => match P.info? elem with
   | some info => match info.size, info.zero, s with
    | size + 1, some z, .slice base sLen sCap => match Nat.beq z.cells.size (size + 1) with
     | true => lenVK x fun n =>
      match n with
      | 0 => match Nat.ble sLen sCap with | true => K (.slice base sLen sCap) σ | false => false
      | n' + 1 => firstK σ (size + 1) (n' + 1) x fun new => forceN (sLen + (n' + 1)) fun need =>
       match Nat.ble (need * (info.bytes + 1)) 1099511627776 with
       | true => match Nat.ble need sCap with
        | true => inRowK (size + 1) new base sLen sCap need σ K
        | false => newRowK P elem (size + 1) new base sLen need σ K
       | false => false
     | false => false
    | _, _, _ => false
   | none => false
  | _, _ => false
 | _ => false
noncomputable def copyK (argTypes : List TypeId) (dst src : Value) (σ : St) (K : VK) : Bool :=
 match argTypes with
 | dT :: _ => match isSlice P dT with
  | some elem => match sizeT P elem, dst with
   | some (size + 1), .slice base dLen _ => lenVK src fun m => forceN (Nat.min m dLen) fun n =>
    match n with
    | 0 => K (.int .i64 (.ofNat 0)) σ
    | n' + 1 => firstK σ (size + 1) (n' + 1) src fun cs => match base with
     | some ⟨i, o, sp⟩ => match spOk sp, allB oneCell cs with
      | true, true => writeK σ i o cs fun σ => K (.int .i64 (.ofNat (n' + 1))) σ
      | _, _ => false
     | none => false
   | _, _ => false
  | none => false
 | [] => false
noncomputable def builtinK (b : Builtin) (argTypes : List TypeId) (args : List Value) (σ : St) (K : VK) : Bool :=
 match b, args with
 | .len, [x] => match argTypes with
  | t :: _ => match x with
   | .slice _ n _ => match isSlice P t with | some _ => K (.int .i64 (.ofNat n)) σ | none => false
   | .string s => match P.underlying t with | some .string => lenK s.data.toList fun n => K (.int .i64 (.ofNat n)) σ | _ => false
   | .map _ => match mapT P t with | some _ => mapK σ x fun _ es _ => lenK es fun n => K (.int .i64 (.ofNat n)) σ | none => false
   | .agg _ => match P.underlying t with | some (.array n _) => K (.int .i64 (.ofNat n)) σ | _ => false
   | _ => false
  | [] => false
 | .append, [s, x] => appendK P argTypes s x σ K
 | .copy, [d, s] => copyK P argTypes d s σ K
 | .delete, [m, k] => deleteK P argTypes m k σ fun σ => K (.tuple #[]) σ
 | .min, .int j x :: l => minsK false l j x fun v => K v σ
 | .max, .int j x :: l => minsK true l j x fun v => K v σ
 | .cap, [x] => match argTypes with
  | t :: _ => match isSlice P t, x with
   | some _, .slice none _ c => K (.int .i64 (.ofNat c)) σ
   | some _, .slice (some ⟨_, _, none⟩) _ c => K (.int .i64 (.ofNat c)) σ
   | _, _ => false
  | [] => false
 | .clear, [.slice base n _] => match argTypes with
  | t :: _ => match isSlice P t with
   | some elem => match sizeT P elem, zeroT P elem with
    | some size, some zero => match base, n with
     | none, _ => K (.tuple #[]) σ
     | some _, 0 => K (.tuple #[]) σ
     | some ⟨i, o, sp⟩, n + 1 => match spOk sp, Nat.beq zero.length size, allB flat0 zero, size with
      | true, true, true, _ + 1 => repK zero (n + 1) fun cs => writeK σ i o cs fun σ => K (.tuple #[]) σ
      | _, _, _, _ => false
    | _, _ => false
   | none => false
  | [] => false
 | _, _ => false
end ops

/-! ### calls, operations, code -/
structure Env where
 P : Program
 /-- functions that are taken by a contract of their own -/
 ov : FuncId → Option (List Value → St → VK → Bool)
 /-- calls, rounds of a loop over a function -/
 call : CallT
 round : Nat → List Value → St → VK → Bool
 /-- how many rounds a loop has at most -/
 most : Nat

def methT (P : Program) (t : TypeId) (name : String) : Option FuncId := match P.info? t, P.underlying t with
 | some info, some d => match info.methods.find? (·.name == name) with
  | some m => match m.path.toList, m.func with
   | [], some (g, pr) => match d, pr with
    | .pointer _, true => some g
    | .pointer _, false => none
    | _, false => some g
    | _, true => none
   | _, _ => none
  | none => none
 | _, _ => none
noncomputable def callOpK (E : Env) (A : AAct) (c : Call) (σ : St) (K : VK) : Bool :=
 evsK A c.args.toList fun args =>
  match c.callee with
  | .builtin b => builtinK E.P b c.argTypes.toList args σ K
  | .value f => evK A f fun f => match f with
   | .func (.func g) first captured => appK first.toList args fun l => appK l captured.toList fun l => E.call g l σ K
   | .func (.yield l) first captured => match first.toList, captured.toList with
    | [], [] => E.round l args σ K
    | _, _ => false
   | _ => false
  | .invoke r m => evK A r fun v => match v with
   | .iface t x => match methT E.P t m with
    | some g => E.call g (x :: args) σ K
    | none => false
   | _ => false

noncomputable def optK (A : AAct) (x : Option Operand) (k : Option Value → Bool) : Bool :=
 match x with
 | none => k none
 | some x => evK A x fun v => k (some v)

noncomputable def opK (E : Env) (o : Oper) (A : AAct) (σ : St) (K : VK) : Bool :=
 match o.op with
 | .move x | .assign x => evK A x fun v => K v σ
 | .pick c a b => evK A c fun c => evK A a fun a => evK A b fun b => match c with
  | .bool true => K a σ
  | .bool false => K b σ
  | _ => false
 | .alloc t => allocK E.P t σ K
 | .box t x => evK A x fun v => boxK t v σ K
 | .build t ps => buildK E.P A t ps.toList fun v => K v σ
 | .buildSlice t n ps => buildSliceK E.P A t n ps.toList σ K
 | .load t a => evK A a fun a => loadK E.P t a σ K
 | .store t a x => evK A a fun a => evK A x fun x => storeK E.P t a x σ fun σ => K undef σ
 | .nilCheck x => evK A x fun v => match v with
  | .pointer (some a) => K (.pointer (some a)) σ
  | .func (.func f) a b => K (.func (.func f) a b) σ
  | .func (.yield f) a b => K (.func (.yield f) a b) σ
  | .func (.method s) ⟨[.iface t w]⟩ ⟨[]⟩ => match methT E.P t s with
   | some _ => K (.func (.method s) ⟨[.iface t w]⟩ ⟨[]⟩) σ
   | none => false
  | .iface t w => K (.iface t w) σ
  | _ => false
 | .binOp op t x y _ => evK A x fun a => evK A y fun b => binK E.P op t a b fun v => K v σ
 | .unOp op _ x => evK A x fun a => unK op a fun v => K v σ
 | .convert s d x => evK A x fun a => convK E.P s d a σ K
 | .makeInterface t x => evK A x fun v => match E.P.underlying t with
  | some (.interface _) => false
  | some _ => K (.iface t v) σ
  | none => false
 | .makeFunc fn first cap => match fn with
  | .func f => evsK A first.toList fun a => evsK A cap.toList fun b => K (.func (.func f) ⟨a⟩ ⟨b⟩) σ
  | .method s => match first.toList, cap.toList with
   | [x], [] => evK A x fun v => K (.func (.method s) ⟨[v]⟩ ⟨[]⟩) σ
   | _, _ => false
  | _ => false
 | .makeMap _ none => newK σ (.map [] 0) fun i σ => K (.map (some i)) σ
 | .makeMap t (some r) => evK A r fun r => match r, mapT E.P t with
  | .int _ _, some _ => newK σ (.map [] 0) fun i σ => K (.map (some i)) σ
  | _, _ => false
 | .range t x => evK A x fun x => rangeMK E.P t x σ K
 | .next it s => evK A it fun it => match s with | true => false | false => nextK it σ K
 | .entry it => evK A it fun it => entryK it σ K
 | .typeAssert x _ as ok => evK A x fun v => match v, E.P.underlying as with
  | .iface _ _, some (.interface _) => false
  | .iface t w, some _ => match Nat.beq t as, ok with
   | true, true => K (.tuple ⟨[w, .bool true]⟩) σ
   | true, false => K w σ
   | false, _ => false
  | _, _ => false
 | .makeSlice t l c => evK A l fun l => evK A c fun c => makeSliceK E.P t l c σ K
 | .slice t x lo hi mx => match mx, hi with
  | some _, none => false
  | _, _ => evK A x fun x => optK A lo fun lo => optK A hi fun hi => optK A mx fun mx => sliceK E.P t x lo hi mx σ fun v => K v σ
 | .fieldAddr s x f => evK A x fun x => fieldAddrK E.P s x f fun v => K v σ
 | .field t x f => evK A x fun x => fieldK E.P t x f fun v => K v σ
 | .indexAddr t x ix => evK A x fun x => evK A ix fun ix => indexAddrK E.P t x ix fun v => K v σ
 | .index t x ix => evK A x fun x => evK A ix fun ix => indexK E.P t x ix fun v => K v σ
 | .lookup t x ix ok => evK A x fun x => evK A ix fun ix => lookupK E.P t x ix ok σ K
 | .mapUpdate t m k x | .insert t m k x => evK A m fun m => evK A k fun k => evK A x fun x => mapUpdateK E.P t m k x σ fun σ => K undef σ
 | .mapEntry t m k => evK A m fun m => evK A k fun k => mapEntryK E.P t m k σ K
 | .entryStore _ m s x => evK A m fun m => evK A s fun s => evK A x fun x => entryStoreK m s x σ fun σ => K undef σ
 | .extract t i => evK A t fun v => match v with
  | .tuple vs => nthK vs.toList i fun v => K v σ
  | _ => false
 | .call c => callOpK E A c σ K
 | _ => false

noncomputable def wantK (ops : Array Oper) (o : Oper) (A : AAct) (k : Bool → Bool) : Bool :=
 match o.guard with
 | none => k true
 | some (j, want) => match ops[j]? with
  | some o' => match o'.dst with
   | some d => tmK A.tmps d fun v => match v with
    | .bool b => match b, want with | true, true | false, false => k true | _, _ => k false
    | _ => k false
   | none => k false
  | none => k false
noncomputable def doK (E : Env) (ops : Array Oper) (o : Oper) (A : AAct) (σ : St) (k : AAct → St → Bool) : Bool :=
 wantK ops o A fun b => bcase b (opK E o A σ fun v σ => putAK A o.dst v fun A => k A σ) (putAK A o.dst undef fun A => k A σ)
noncomputable def opsK (E : Env) (ops : Array Oper) (l : List Oper) (A : AAct) (σ : St) (k : AAct → St → Bool) : Bool :=
 lrec (β := AAct → St → Bool) (fun A σ => k A σ) (fun o _ ih A σ => doK E ops o A σ ih) l A σ

abbrev CK' := AExit → AAct → St → Bool
noncomputable def loopK (body : AAct → St → CK' → Bool) (most : Nat) (A : AAct) (σ : St) (K : CK') : Bool :=
 nrec (β := AAct → St → Bool) (fun _ _ => false) (fun _ ih A σ => body A σ fun e A σ => match e with | .normal => ih A σ | e => K e A σ) most A σ
noncomputable def rangeK (E : Env) (r : Option Nat) (f : Operand) (params : Array Tmp) (assign body : Code) (A : AAct) (σ : St) (K : CK') : Bool :=
 evK A f fun f => match f with
  | .func (.func g) first captured =>
   let go (A : AAct) (σ : St) : Bool := newK σ (.loop A.tmps params.toList assign body .ready none) fun l σ =>
    appK first.toList [.func (.yield l) #[] #[]] fun as => appK as captured.toList fun as => E.call g as σ fun _ σ =>
     getK σ.h l fun o => match o with
      | .loop tm ps as bo st pe => match st with
       | .busy => false
       | _ => setK σ l (.loop tm ps as bo .exhausted pe) fun σ => match pe with
        | none => K .normal A σ
        | some .ret => K .ret A σ
        | some (.exit id) => K (.exit id) A σ
        | _ => false
      | _ => false
   match r with
   | some l => getK σ.h l fun o => match o with | .loop _ _ _ _ _ _ => go A σ | _ => false
   | none => newK σ .defers fun d σ => go ⟨A.tmps, d :: A.marks, A.g⟩ σ
  | _ => false
noncomputable def codeK (E : Env) (dr : Array Oper → AAct → St → (AAct → St → Bool) → Bool) (r : Option Nat) (c : Code) : AAct → St → CK' → Bool :=
 crec (β := AAct → St → CK' → Bool)
  (fun A σ K => K .normal A σ)
  (fun ops draw A σ K => bcase draw (dr ops A σ fun A σ => K .normal A σ) (opsK E ops ops.toList A σ fun A σ => K .normal A σ))
  (fun ha hb A σ K => ha A σ fun e A σ => match e with | .normal => hb A σ K | e => K e A σ)
  (fun c ha hb A σ K => evK A c fun v => match v with | .bool b => bcase b (ha A σ K) (hb A σ K) | _ => false)
  (fun id h A σ K => h A σ fun e A σ => match e with
   | .exit i => match Nat.beq i id with | true => K .normal A σ | false => K (.exit i) A σ
   | e => K e A σ)
  (fun h A σ K => loopK h E.most A σ K)
  (fun h A σ K => h A σ K)
  (fun f params assign body A σ K => rangeK E r f params assign body A σ K)
  (fun id A σ K => K (.exit id) A σ)
  (fun A σ K => K .normal A σ)
  (fun A σ K => K .ret A σ)
  (fun _ _ _ => false) c

noncomputable def marksK (l : List Nat) (σ : St) (k : St → Bool) : Bool :=
 lrec (β := St → Bool) (fun σ => k σ) (fun d _ ih σ => getK σ.h d fun o => match o with | .defers => setK σ d .dead ih | _ => false) l σ
noncomputable def resultsK (P : Program) (rs : List ResultVar) (A : AAct) (σ : St) (k : List Value → Bool) : Bool :=
 lrec (β := (List Value → Bool) → Bool) (fun k => k []) (fun x _ ih k => match x with
  | .tmp t => tmK A.tmps t fun v => ih fun vs => k (v :: vs)
  | .cell a t => tmK A.tmps a fun a => loadK P t a σ fun v _ => ih fun vs => k (v :: vs)) rs k
noncomputable def enterK (E : Env) (dr : Array Oper → AAct → St → (AAct → St → Bool) → Bool) (f : FuncId) (args : List Value) (σ : St) (K : VK) : Bool :=
 match E.P.funcs[f]? with
 | some fn => match fn.body with
  | some c => forceN fn.ntmps fun n => layTK n args fun ts => codeK E dr none c ⟨ts, [], E.P.globals.size⟩ σ fun e A σ =>
   match e with
   | .exit _ => false
   | _ => marksK A.marks σ fun σ => resultsK E.P fn.results.toList A σ fun vs => match vs with | [v] => K v σ | vs => K (.tuple ⟨vs⟩) σ
  | none => false
 | none => false
noncomputable def roundK (E : Env) (dr : Array Oper → AAct → St → (AAct → St → Bool) → Bool) (l : Nat) (args : List Value) (σ : St) (K : VK) : Bool :=
 getK σ.h l fun o => match o with
  | .loop tmps params assign body _ _ =>
   let laid : List Tmp → List Value → Tm → (Tm → Bool) → Bool := fun ps => lrec (β := List Value → Tm → (Tm → Bool) → Bool)
    (fun as ts k => match as with | [] => k ts | _ => false) (fun p _ ih as ts k => match as with | a :: as => setTK a ts p fun ts => ih as ts k | [] => false) ps
   laid params args tmps fun ts => codeK E dr (some l) assign ⟨ts, [], E.P.globals.size⟩ σ fun e A σ => match e with
    | .normal => getK σ.h l fun o => match o with
     | .loop tm ps as bo .ready pe => setK σ l (.loop tm ps as bo .busy pe) fun σ => codeK E dr (some l) body A σ fun e _ σ =>
      getK σ.h l fun o => match o with
       | .loop tm ps as bo _ _ => match e with
        | .normal => setK σ l (.loop tm ps as bo .ready none) fun σ => K (.bool true) σ
        | .ret => setK σ l (.loop tm ps as bo .done (some .ret)) fun σ => K (.bool false) σ
        | .exit id => setK σ l (.loop tm ps as bo .done (some (.exit id))) fun σ => K (.bool false) σ
       | _ => false
     | _ => false
    | _ => false
  | _ => false

noncomputable def env (P : Program) (ov : FuncId → Option (List Value → St → VK → Bool)) (dr : Env → Array Oper → AAct → St → (AAct → St → Bool) → Bool) (most : Nat) (n : Nat) : Env :=
 nrec (β := Env) { P, ov, call := fun _ _ _ _ => false, round := fun _ _ _ _ => false, most }
  (fun _ E => { P, ov, call := fun f args σ K => match ov f with | some g => g args σ K | none => enterK E (dr E) f args σ K, round := fun l args σ K => roundK E (dr E) l args σ K, most }) n
end Go.Am

namespace Go.Am
section comb
variable {α β : Type}
theorem ncase_zero (z : β) (s : Nat → β) : ncase 0 z s = z := rfl
theorem ncase_succ (n : Nat) (z : β) (s : Nat → β) : ncase (n + 1) z s = s n := rfl
theorem lrec_nil (z : β) (s : α → List α → β → β) : lrec z s [] = z := rfl
theorem lrec_cons (a : α) (l : List α) (z : β) (s : α → List α → β → β) : lrec z s (a :: l) = s a l (lrec z s l) := rfl
theorem nrec_zero (z : β) (s : Nat → β → β) : nrec z s 0 = z := rfl
theorem nrec_succ (n : Nat) (z : β) (s : Nat → β → β) : nrec z s (n + 1) = s n (nrec z s n) := rfl

theorem forceN_eq (n : Nat) (k : Nat → Bool) : forceN n k = k n := by cases n <;> rfl
theorem forceI_eq (n : Int) (k : Int → Bool) : forceI n k = k n := by cases n <;> simp [forceI, icase, forceN_eq]
theorem forceB_eq (b : Bool) (k : Bool → Bool) : forceB b k = k b := by cases b <;> rfl

theorem getK_eq (t : Tr α) (n : Nat) (k : α → Bool) : getK t n k = match t.get n with | some x => k x | none => false := by
 induction t generalizing n with
 | leaf => rfl
 | node v l r ihl ihr =>
  cases n with
  | zero => cases v <;> rfl
  | succ p =>
   have hd : getK (.node v l r) (p + 1) k = (ncase (Nat.mod p 2) (getK l (Nat.div p 2) k) fun _ => getK r (Nat.div p 2) k) := rfl
   rw [hd]
   have hm : p % 2 = 0 ∨ p % 2 = 1 := by omega
   rcases hm with hm | hm
   · have : Nat.mod p 2 = 0 := hm
     rw [this, ncase_zero, ihl]
     have e1 : (p + 1) / 2 = Nat.div p 2 := by show _ = p / 2; omega
     simp only [Tr.get, Nat.add_eq_zero_iff, Nat.one_ne_zero, and_false, if_false, show (p + 1) % 2 = 1 by omega, if_true, e1]
   · have : Nat.mod p 2 = 1 := hm
     rw [this]
     show getK r (Nat.div p 2) k = _
     rw [ihr]
     have e1 : (p + 1) / 2 - 1 = Nat.div p 2 := by show _ = p / 2; omega
     simp only [Tr.get, Nat.add_eq_zero_iff, Nat.one_ne_zero, and_false, if_false, show ¬ (p + 1) % 2 = 1 by omega, e1]

theorem putK_eq (x : α) : ∀ (f : Nat) (t : Tr α) (n : Nat) (k : Tr α → Bool), putK x f t n k = k (Tr.putF x f t n) := by
 intro f
 induction f with
 | zero => intro t n k; rfl
 | succ f ih =>
  intro t n k
  have hs : putK x (f + 1) t n k = tcase t
   (ncase n (k (.node (some x) .leaf .leaf)) fun p => ncase (Nat.mod p 2) (putK x f .leaf (Nat.div p 2) fun c => k (.node none c .leaf)) fun _ => putK x f .leaf (Nat.div p 2) fun c => k (.node none .leaf c))
   (fun v l r => ncase n (k (.node (some x) l r)) fun p => ncase (Nat.mod p 2) (putK x f l (Nat.div p 2) fun c => k (.node v c r)) fun _ => putK x f r (Nat.div p 2) fun c => k (.node v l c)) := rfl
  rw [hs]
  cases t with
  | leaf =>
   cases n with
   | zero => simp [tcase, Tr.putF, ncase_zero]
   | succ p =>
    show (ncase (Nat.mod p 2) _ fun _ => _) = _
    have hm : p % 2 = 0 ∨ p % 2 = 1 := by omega
    rcases hm with hm | hm
    · have h0 : Nat.mod p 2 = 0 := hm
      rw [h0, ncase_zero, ih]
      have e1 : (p + 1) / 2 = Nat.div p 2 := by show _ = p / 2; omega
      simp [Tr.putF, show (p + 1) % 2 = 1 by omega, e1]
    · have h0 : Nat.mod p 2 = 0 + 1 := hm
      rw [h0, ncase_succ, ih]
      have e1 : (p + 1) / 2 - 1 = Nat.div p 2 := by show _ = p / 2; omega
      simp [Tr.putF, show ¬ (p + 1) % 2 = 1 by omega, e1]
  | node v l r =>
   cases n with
   | zero => simp [tcase, Tr.putF, ncase_zero]
   | succ p =>
    show (ncase (Nat.mod p 2) _ fun _ => _) = _
    have hm : p % 2 = 0 ∨ p % 2 = 1 := by omega
    rcases hm with hm | hm
    · have h0 : Nat.mod p 2 = 0 := hm
      rw [h0, ncase_zero, ih]
      have e1 : (p + 1) / 2 = Nat.div p 2 := by show _ = p / 2; omega
      simp [Tr.putF, show (p + 1) % 2 = 1 by omega, e1]
    · have h0 : Nat.mod p 2 = 0 + 1 := hm
      rw [h0, ncase_succ, ih]
      have e1 : (p + 1) / 2 - 1 = Nat.div p 2 := by show _ = p / 2; omega
      simp [Tr.putF, show ¬ (p + 1) % 2 = 1 by omega, e1]

theorem get_putF (x : α) : ∀ (f : Nat) (t : Tr α) (n m : Nat), n < f → (Tr.putF x f t n).get m = if m = n then some x else t.get m := by
 intro f
 induction f with
 | zero => intro t n m h; omega
 | succ f ih =>
  intro t n m h
  have hl : ∀ m, (Tr.leaf : Tr α).get m = none := fun m => rfl
  cases t with
  | leaf =>
   simp only [Tr.putF]
   by_cases h0 : n = 0
   · subst h0
     by_cases hm : m = 0 <;> simp [Tr.get, hm]
   · by_cases h1 : n % 2 = 1
     · simp only [h0, h1, if_true, if_false, Tr.get]
       by_cases hm : m = 0
       · subst hm; simp [Ne.symm h0]
       · by_cases h2 : m % 2 = 1
         · rw [if_neg hm, if_pos h2, ih _ _ _ (by omega)]
           by_cases e : m = n
           · subst e; simp
           · rw [if_neg e, if_neg (by omega), hl]
         · rw [if_neg hm, if_neg h2, if_neg (by omega)]
     · simp only [h0, h1, if_false, Tr.get]
       by_cases hm : m = 0
       · subst hm; simp [Ne.symm h0]
       · by_cases h2 : m % 2 = 1
         · rw [if_neg hm, if_pos h2, if_neg (by omega)]
         · rw [if_neg hm, if_neg h2, ih _ _ _ (by omega)]
           by_cases e : m = n
           · subst e; simp
           · rw [if_neg e, if_neg (by omega), hl]
  | node v l r =>
   simp only [Tr.putF]
   by_cases h0 : n = 0
   · subst h0
     by_cases hm : m = 0 <;> simp [Tr.get, hm]
   · by_cases h1 : n % 2 = 1
     · simp only [h0, h1, if_true, if_false, Tr.get]
       by_cases hm : m = 0
       · subst hm; simp [Ne.symm h0]
       · by_cases h2 : m % 2 = 1
         · rw [if_neg hm, if_pos h2, ih _ _ _ (by omega)]
           by_cases e : m = n
           · subst e; simp
           · rw [if_neg e, if_neg (by omega), if_neg hm, if_pos h2]
         · rw [if_neg hm, if_neg h2, if_neg (by omega), if_neg hm, if_neg h2]
     · simp only [h0, h1, if_false, Tr.get]
       by_cases hm : m = 0
       · subst hm; simp [Ne.symm h0]
       · by_cases h2 : m % 2 = 1
         · rw [if_neg hm, if_pos h2, if_neg (by omega), if_neg hm, if_pos h2]
         · rw [if_neg hm, if_neg h2, ih _ _ _ (by omega)]
           by_cases e : m = n
           · subst e; simp
           · rw [if_neg e, if_neg (by omega), if_neg hm, if_neg h2]

theorem get_put (t : Tr α) (n : Nat) (x : α) (m : Nat) : (t.put n x).get m = if m = n then some x else t.get m := get_putF x _ t n m (Nat.lt_succ_self n)

theorem nthK_eq (l : List α) (i : Nat) (k : α → Bool) : nthK l i k = match l[i]? with | some a => k a | none => false := by
 induction l generalizing i with
 | nil => rfl
 | cons a l ih =>
  cases i with
  | zero => rfl
  | succ i => exact (ih i).trans (by simp)
theorem setNK_eq (v : α) (l : List α) (i : Nat) (k : List α → Bool) : setNK v l i k = k (l.set i v) := by
 induction l generalizing i k with
 | nil => rfl
 | cons a l ih =>
  cases i with
  | zero => rfl
  | succ i => exact ih i _
theorem layK_eq (l : List α) (k : List α → Bool) : layK l k = k l := by
 induction l generalizing k with
 | nil => rfl
 | cons a l ih => exact ih _
theorem appK_eq (l m : List α) (k : List α → Bool) : appK l m k = k (l ++ m) := by
 induction l generalizing k with
 | nil => rfl
 | cons a l ih => exact ih _
theorem takeK_eq (n : Nat) (l : List α) (k : List α → Bool) : takeK n l k = if n ≤ l.length then k (l.take n) else false := by
 induction n generalizing l k with
 | zero => simp [takeK, nrec_zero]
 | succ n ih =>
  cases l with
  | nil => rfl
  | cons a l =>
   show takeK n l (fun t' => k (a :: t')) = _
   rw [ih]; simp
theorem dropK_eq (n : Nat) (l : List α) (k : List α → Bool) : dropK n l k = if n ≤ l.length then k (l.drop n) else false := by
 induction n generalizing l with
 | zero => simp [dropK, nrec_zero]
 | succ n ih =>
  cases l with
  | nil => rfl
  | cons a l =>
   show dropK n l k = _
   rw [ih]; simp
def splice (off : Nat) (new l : List α) : List α := l.take off ++ new ++ l.drop (off + new.length)
theorem overK_eq (new l : List α) (k : List α → Bool) : overK new l k = if new.length ≤ l.length then k (new ++ l.drop new.length) else false := by
 induction new generalizing l k with
 | nil => simp [overK, lrec_nil]
 | cons a new ih =>
  cases l with
  | nil => rfl
  | cons b l =>
   show overK new l (fun t' => k (a :: t')) = _
   rw [ih]; simp
theorem spliceK_eq (off : Nat) (new l : List α) (k : List α → Bool) : spliceK off new l k = if off + new.length ≤ l.length then k (splice off new l) else false := by
 induction off generalizing l k with
 | zero =>
  show overK new l k = _
  rw [overK_eq]; simp [splice]
 | succ off ih =>
  cases l with
  | nil => show false = _; rw [if_neg (by simp)]
  | cons b l =>
   show spliceK off new l (fun t' => k (b :: t')) = _
   rw [ih]
   have : off + 1 + new.length ≤ (b :: l).length ↔ off + new.length ≤ l.length := by simp; omega
   simp only [this]
   have e : splice (off + 1) new (b :: l) = b :: splice off new l := by simp [splice, show off + 1 + new.length = (off + new.length) + 1 by omega]
   rw [e]
theorem splice_length (off : Nat) (new l : List α) (h : off + new.length ≤ l.length) : (splice off new l).length = l.length := by simp [splice]; omega
theorem splice_get (off : Nat) (new l : List α) (h : off + new.length ≤ l.length) (j : Nat) :
 (splice off new l)[j]? = if off ≤ j ∧ j < off + new.length then new[j - off]? else l[j]? := by
 unfold splice
 by_cases h1 : j < off
 · rw [if_neg (by omega), List.append_assoc, List.getElem?_append_left (by simp; omega), List.getElem?_take, if_pos h1]
 · by_cases h2 : j < off + new.length
   · rw [if_pos (by omega), List.append_assoc, List.getElem?_append_right (by simp; omega), List.getElem?_append_left (by simp; omega)]
     congr 1; simp; omega
   · rw [if_neg (by omega), List.getElem?_append_right (by simp; omega), List.getElem?_drop]
     congr 1; simp; omega
theorem lenK_eq (l : List α) (k : Nat → Bool) : lenK l k = k l.length := by
 have h : ∀ (l : List α) (n : Nat), lrec (β := Nat → Bool) (fun n => k n) (fun _ _ ih n => forceN (Nat.succ n) ih) l n = k (n + l.length) := by
  intro l
  induction l with
  | nil => intro n; rfl
  | cons a l ih =>
   intro n
   rw [lrec_cons, forceN_eq, ih]
   congr 1; simp; omega
 unfold lenK; rw [h, Nat.zero_add]
theorem repK_eq (z : List α) (n : Nat) (k : List α → Bool) : repK z n k = k (List.replicate n z).flatten := by
 have h : ∀ (n : Nat) (acc : List α), nrec (β := List α → Bool) (fun acc => k acc) (fun _ ih acc => appK z acc ih) n acc = k ((List.replicate n z).flatten ++ acc) := by
  intro n
  induction n with
  | zero => intro acc; rfl
  | succ n ih =>
   intro acc
   rw [nrec_succ, appK_eq, ih]
   have : (List.replicate n z).flatten ++ (z ++ acc) = (List.replicate (n + 1) z).flatten ++ acc := by
    rw [List.replicate_succ', List.flatten_append]; simp
   rw [this]
 unfold repK; rw [h, List.append_nil]
theorem allB_eq (f : α → Bool) (l : List α) : allB f l = l.all f := by
 induction l with
 | nil => rfl
 | cons a l ih =>
  show bcase (f a) (allB f l) false = _
  cases h : f a <;> simp [bcase, h, ih]
theorem eraseK_eq (l : List α) (i : Nat) (k : List α → Bool) : eraseK l i k = k (l.eraseIdx i) := by
 induction l generalizing i k with
 | nil => rfl
 | cons a l ih =>
  cases i with
  | zero => rfl
  | succ i => exact ih i _
end comb

theorem killK_eq (l : List Nat) (h : Tr AObj) (k : Tr AObj → Bool) : killK l h k = k (l.foldl (fun h i => h.put i .dead) h) := by
 induction l generalizing h with
 | nil => rfl
 | cons i l ih =>
  show putK .dead (Nat.succ i) h i (fun h => killK l h k) = _
  rw [putK_eq, ih]; rfl
theorem get_kill (l : List Nat) (h : Tr AObj) (m : Nat) : (l.foldl (fun h i => h.put i AObj.dead) h).get m = if m ∈ l then some .dead else h.get m := by
 induction l generalizing h with
 | nil => simp
 | cons i l ih =>
  rw [List.foldl_cons, ih, get_put]
  by_cases h1 : m ∈ l
  · simp [h1]
  · by_cases h2 : m = i
    · simp [h2]
    · simp [h1, h2]

def St.set (σ : St) (i : Nat) (o : AObj) : St := ⟨σ.h.put i o, σ.n⟩
def St.new (σ : St) (o : AObj) : St := ⟨σ.h.put σ.n o, σ.n + 1⟩
def St.obj (σ : St) (i : Nat) : Option AObj := σ.h.get i
theorem obj_set (σ : St) (i : Nat) (o : AObj) (j : Nat) : (σ.set i o).obj j = if j = i then some o else σ.obj j := get_put _ _ _ _
theorem obj_new (σ : St) (o : AObj) (j : Nat) : (σ.new o).obj j = if j = σ.n then some o else σ.obj j := get_put _ _ _ _
theorem newK_eq (σ : St) (o : AObj) (k : Nat → St → Bool) : newK σ o k = k σ.n (σ.new o) := by simp [newK, putK_eq, forceN_eq, St.new, Tr.put]
theorem setK_eq (σ : St) (i : Nat) (o : AObj) (k : St → Bool) : setK σ i o k = k (σ.set i o) := by simp [setK, putK_eq, St.set, Tr.put]
theorem cellsK_true {σ : St} {i : Nat} {k : List Value → TypeId → CK → Bool} (h : cellsK σ i k = true) : ∃ vs e c, σ.obj i = some (.cells vs e c) ∧ k vs e c = true := by
 unfold cellsK at h
 rw [getK_eq] at h
 cases ho : σ.h.get i with
 | none => simp [ho] at h
 | some o => cases o <;> simp [ho] at h; exact ⟨_, _, _, ho, h⟩
theorem readK_true {σ : St} {i off n : Nat} {k : List Value → Bool} (h : readK σ i off n k = true) :
 ∃ vs e c, σ.obj i = some (.cells vs e c) ∧ off + n ≤ vs.length ∧ k ((vs.drop off).take n) = true := by
 obtain ⟨vs, e, c, ho, h⟩ := cellsK_true h
 rw [dropK_eq] at h
 split at h
 · rw [takeK_eq] at h
   split at h
   · rename_i h1 h2
     exact ⟨vs, e, c, ho, by simp at h2; omega, h⟩
   · simp at h
 · simp at h
theorem nthK_true {α : Type} {l : List α} {i : Nat} {k : α → Bool} (h : nthK l i k = true) : ∃ a, l[i]? = some a ∧ k a = true := by
 rw [nthK_eq] at h
 cases ha : l[i]? with
 | none => simp [ha] at h
 | some a => exact ⟨a, rfl, by simpa [ha] using h⟩
theorem tmK_true {T : Tm} {i : Nat} {k : Value → Bool} (h : tmK T i k = true) : ∃ v, T.t.get i = some v ∧ k v = true := by
 unfold tmK at h
 rw [getK_eq] at h
 cases hx : T.t.get i with
 | none => rw [hx] at h; cases h
 | some x => rw [hx] at h; exact ⟨x, rfl, h⟩
def Tm.put (T : Tm) (i : Nat) (v : Value) : Tm := ⟨T.t.put i v, T.n⟩
theorem setTK_true {v : Value} {T : Tm} {i : Nat} {k : Tm → Bool} (h : setTK v T i k = true) : i < T.n ∧ k (T.put i v) = true := by
 unfold setTK at h
 split at h
 · rename_i hb
   rw [putK_eq] at h
   exact ⟨Nat.le_of_ble_eq_true hb, h⟩
 · cases h
theorem evK_true {A : AAct} {x : Operand} {k : Value → Bool} (h : evK A x k = true) :
 ∃ v, k v = true ∧ ((∃ t, x = .tmp t ∧ A.tmps.t.get t = some v) ∨ (x = .const v ∧ flat1 v = true) ∨ (∃ g, x = .global g ∧ g < A.g ∧ v = .pointer (some ⟨g, 0, none⟩)) ∨ (∃ f, x = .func f ∧ v = .func (.func f) #[] #[])) := by
 cases x with
 | tmp t => obtain ⟨a, ha, hk⟩ := tmK_true h; exact ⟨a, hk, .inl ⟨t, rfl, ha⟩⟩
 | const v =>
  cases hf : flat1 v with
  | true => exact ⟨v, by simpa [evK, hf] using h, .inr (.inl ⟨rfl, hf⟩)⟩
  | false => simp [evK, hf] at h
 | global g =>
  cases hg : Nat.blt g A.g with
  | true => exact ⟨_, by simpa [evK, hg] using h, .inr (.inr (.inl ⟨g, rfl, Nat.le_of_ble_eq_true hg, rfl⟩))⟩
  | false => simp [evK, hg] at h
 | func f => exact ⟨_, h, .inr (.inr (.inr ⟨f, rfl, rfl⟩))⟩
end Go.Am

namespace Go.Am
open Go.RowKit

structure Loc where
 b : Nat
 s : Nat
 e : Nat
 m : Nat
abbrev Rn := Nat → Option Loc

inductive VR (ρ : Rn) : Value → Value → Prop
 | flat {v : Value} (h : flat0 v = true) : VR ρ v v
 | ptr {i o : Nat} {L : Loc} (h : ρ i = some L) : VR ρ (.pointer (some ⟨i, o, none⟩)) (.pointer (some ⟨L.b, L.s + o, none⟩))
 | slice {i o n c : Nat} {L : Loc} (h : ρ i = some L) : VR ρ (.slice (some ⟨i, o, none⟩) n c) (.slice (some ⟨L.b, L.s + o, none⟩) n c)
 | sliceIn {i o n c c' : Nat} {L : Loc} (h : ρ i = some L) (hc : c ≤ c') (hn : n ≤ c) (he : L.s + o + c' * L.m = L.e) (hm : 0 < L.m) : VR ρ (.slice (some ⟨i, o, some 0⟩) n c) (.slice (some ⟨L.b, L.s + o, none⟩) n c')
 | sliceE {i c' : Nat} {a : Addr} : VR ρ (.slice (some ⟨i, 0, some 1⟩) 0 0) (.slice (some a) 0 c')
 /-- a slice without elements, that lies just there -/
 | sliceR {b o s : Nat} {sp : Option Nat} (hs : sp = match s with | 0 => none | k + 1 => some k) : VR ρ (.slice (some ⟨b, o, some (s + 2)⟩) 0 0) (.slice (some ⟨b, o, sp⟩) 0 0)
 | map {i : Nat} {L : Loc} (h : ρ i = some L) : VR ρ (.map (some i)) (.map (some L.b))
 | func {f : FuncId} {a a' c c' : Array Value} (ha : a.size = a'.size) (hc : c.size = c'.size) (h1 : ∀ (k : Nat) (v v' : Value), a.toList[k]? = some v → a'.toList[k]? = some v' → VR ρ v v')
  (h2 : ∀ (k : Nat) (v v' : Value), c.toList[k]? = some v → c'.toList[k]? = some v' → VR ρ v v') : VR ρ (.func (.func f) a c) (.func (.func f) a' c')
 | yield {l : Nat} {L : Loc} (h : ρ l = some L) : VR ρ (.func (.yield l) #[] #[]) (.func (.yield L.b) #[] #[])
 | meth {s : String} {v v' : Value} (h : VR ρ v v') : VR ρ (.func (.method s) ⟨[v]⟩ ⟨[]⟩) (.func (.method s) ⟨[v']⟩ ⟨[]⟩)
 | iface {t : TypeId} {v v' : Value} (h : VR ρ v v') : VR ρ (.iface t v) (.iface t v')
 | agg {a a' : Array Value} (ha : a.size = a'.size) (h1 : ∀ (k : Nat) (v v' : Value), a.toList[k]? = some v → a'.toList[k]? = some v' → VR ρ v v') : VR ρ (.agg a) (.agg a')
 | tuple {a a' : Array Value} (ha : a.size = a'.size) (h1 : ∀ (k : Nat) (v v' : Value), a.toList[k]? = some v → a'.toList[k]? = some v' → VR ρ v v') : VR ρ (.tuple a) (.tuple a')

def VRs (ρ : Rn) (l l' : List Value) : Prop := l.length = l'.length ∧ ∀ (k : Nat) (v v' : Value), l[k]? = some v → l'[k]? = some v' → VR ρ v v'

def TRs (ρ : Rn) (T : Tm) (l' : List Value) : Prop := T.n = l'.length ∧ ∀ (k : Nat) (v : Value), T.t.get k = some v → ∃ v', l'[k]? = some v' ∧ VR ρ v v'
theorem TRs.get {ρ : Rn} {T : Tm} {l' : List Value} (h : TRs ρ T l') {k : Nat} {v : Value} (hv : T.t.get k = some v) : ∃ v', l'[k]? = some v' ∧ VR ρ v v' := h.2 k v hv
theorem TRs.set {ρ : Rn} {T : Tm} {l' : List Value} (h : TRs ρ T l') {i : Nat} (hi : i < T.n) {v v' : Value} (hv : VR ρ v v') : TRs ρ (T.put i v) (l'.set i v') := by
 refine ⟨by simpa [Tm.put] using h.1, fun k x hx => ?_⟩
 have hx : (T.t.put i v).get k = some x := hx
 rw [get_put] at hx
 have hl : i < l'.length := by rw [← h.1]; exact hi
 by_cases e : k = i
 · subst e
   rw [if_pos rfl] at hx
   injection hx with hx
   subst hx
   exact ⟨v', by simp [hl], hv⟩
 · rw [if_neg e] at hx
   obtain ⟨y, hy, hr⟩ := h.2 k x hx
   exact ⟨y, by rw [List.getElem?_set_ne (Ne.symm e)]; exact hy, hr⟩
def Ext (ρ ρ' : Rn) : Prop := ∀ i L, ρ i = some L → ρ' i = some L
theorem Ext.refl (ρ : Rn) : Ext ρ ρ := fun _ _ h => h
theorem Ext.trans {a b c : Rn} (h : Ext a b) (k : Ext b c) : Ext a c := fun i L e => k i L (h i L e)

theorem VR.mono {ρ ρ' : Rn} (he : Ext ρ ρ') {v v' : Value} (h : VR ρ v v') : VR ρ' v v' := by
 induction h with
 | flat h => exact .flat h
 | ptr h => exact .ptr (he _ _ h)
 | slice h => exact .slice (he _ _ h)
 | sliceIn h hc hn hh hm => exact .sliceIn (he _ _ h) hc hn hh hm
 | sliceE => exact .sliceE
 | sliceR hs => exact .sliceR hs
 | map h => exact .map (he _ _ h)
 | func ha hc _ _ i1 i2 => exact .func ha hc i1 i2
 | yield h => exact .yield (he _ _ h)
 | meth _ ih => exact .meth ih
 | iface _ ih => exact .iface ih
 | agg ha _ ih => exact .agg ha ih
 | tuple ha _ ih => exact .tuple ha ih
theorem VRs.mono {ρ ρ' : Rn} (he : Ext ρ ρ') {l l' : List Value} (h : VRs ρ l l') : VRs ρ' l l' := ⟨h.1, fun k v v' a b => (h.2 k v v' a b).mono he⟩

theorem TRs.mono {ρ ρ' : Rn} (he : Ext ρ ρ') {T : Tm} {l' : List Value} (h : TRs ρ T l') : TRs ρ' T l' := ⟨h.1, fun k v hv => let ⟨v', a, b⟩ := h.2 k v hv; ⟨v', a, b.mono he⟩⟩

theorem VRs.nil (ρ : Rn) : VRs ρ [] [] := ⟨rfl, by simp⟩
theorem VRs.cons {ρ : Rn} {v v' : Value} {l l' : List Value} (h : VR ρ v v') (t : VRs ρ l l') : VRs ρ (v :: l) (v' :: l') := by
 refine ⟨by simp [t.1], fun k x x' a b => ?_⟩
 cases k with
 | zero => simp at a b; subst a b; exact h
 | succ k => simp at a b; exact t.2 k x x' a b
theorem VRs.head {ρ : Rn} {v v' : Value} {l l' : List Value} (h : VRs ρ (v :: l) (v' :: l')) : VR ρ v v' := h.2 0 v v' rfl rfl
theorem VRs.tail {ρ : Rn} {v v' : Value} {l l' : List Value} (h : VRs ρ (v :: l) (v' :: l')) : VRs ρ l l' :=
 ⟨by simpa using h.1, fun k x x' a b => h.2 (k + 1) x x' (by simpa using a) (by simpa using b)⟩
theorem VRs.inv_nil {ρ : Rn} {l' : List Value} (h : VRs ρ [] l') : l' = [] := List.eq_nil_of_length_eq_zero (by simpa using h.1.symm)
theorem VRs.inv_cons {ρ : Rn} {v : Value} {l l' : List Value} (h : VRs ρ (v :: l) l') : ∃ v' t', l' = v' :: t' ∧ VR ρ v v' ∧ VRs ρ l t' := by
 cases l' with
 | nil => have := h.1; simp at this
 | cons v' t' => exact ⟨v', t', rfl, h.head, h.tail⟩
theorem VRs.get {ρ : Rn} {l l' : List Value} (h : VRs ρ l l') {k : Nat} {v : Value} (hv : l[k]? = some v) : ∃ v', l'[k]? = some v' ∧ VR ρ v v' := by
 have hk : k < l'.length := by rw [← h.1]; exact (List.getElem?_eq_some_iff.1 hv).1
 exact ⟨l'[k], List.getElem?_eq_getElem hk, h.2 k v _ hv (List.getElem?_eq_getElem hk)⟩
theorem VRs.get_none {ρ : Rn} {l l' : List Value} (h : VRs ρ l l') {k : Nat} (hv : l[k]? = none) : l'[k]? = none := by
 rw [List.getElem?_eq_none_iff] at *; rw [← h.1]; exact hv
theorem VRs.append {ρ : Rn} {l l' m m' : List Value} (h : VRs ρ l l') (k : VRs ρ m m') : VRs ρ (l ++ m) (l' ++ m') := by
 refine ⟨by simp [h.1, k.1], fun j v v' a b => ?_⟩
 by_cases hj : j < l.length
 · rw [List.getElem?_append_left hj] at a
   rw [List.getElem?_append_left (by rw [← h.1]; exact hj)] at b
   exact h.2 j v v' a b
 · rw [List.getElem?_append_right (by omega)] at a
   rw [List.getElem?_append_right (by rw [← h.1]; omega), ← h.1] at b
   exact k.2 _ v v' a b
theorem VRs.take {ρ : Rn} {l l' : List Value} (h : VRs ρ l l') (n : Nat) : VRs ρ (l.take n) (l'.take n) := by
 refine ⟨by simp [h.1], fun j v v' a b => ?_⟩
 rw [List.getElem?_take] at a b
 split at a
 · rename_i hj; rw [if_pos hj] at b; exact h.2 j v v' a b
 · simp at a
theorem VRs.drop {ρ : Rn} {l l' : List Value} (h : VRs ρ l l') (n : Nat) : VRs ρ (l.drop n) (l'.drop n) := by
 refine ⟨by simp [h.1], fun j v v' a b => ?_⟩
 rw [List.getElem?_drop] at a b
 exact h.2 _ v v' a b
theorem VRs.splice {ρ : Rn} {l l' n n' : List Value} (h : VRs ρ l l') (k : VRs ρ n n') (off : Nat) : VRs ρ (splice off n l) (splice off n' l') := by
 unfold Am.splice
 rw [← k.1]
 exact ((h.take off).append k).append (h.drop _)
theorem VRs.flat {ρ : Rn} {l : List Value} (h : ∀ v ∈ l, flat0 v = true) : VRs ρ l l :=
 ⟨rfl, fun k v v' a b => by rw [a] at b; injection b with b; subst b; exact .flat (h v (List.mem_of_getElem? a))⟩
theorem VRs.flatten {ρ : Rn} {z z' : List Value} (h : VRs ρ z z') (n : Nat) : VRs ρ (List.replicate n z).flatten (List.replicate n z').flatten := by
 induction n with
 | zero => exact .nil ρ
 | succ n ih => simp only [List.replicate_succ, List.flatten_cons]; exact h.append ih

theorem VR.flat1 {ρ : Rn} {v : Value} (h : flat1 v = true) : VR ρ v v := by
 cases v <;> first
  | exact .flat h
  | (rename_i cs; exact .agg rfl (VRs.flat (ρ := ρ) (List.all_eq_true.1 h)).2)
theorem VR.of_flat {ρ : Rn} {v v' : Value} (h : VR ρ v v') (hf : flat0 v = true) : v' = v := by
 cases h <;> first | rfl | simp [flat0] at hf
theorem VR.agg_inv {ρ : Rn} {a : Array Value} {v' : Value} (h : VR ρ (.agg a) v') : ∃ a', v' = .agg a' ∧ VRs ρ a.toList a'.toList := by
 cases h with
 | flat h => simp [flat0] at h
 | agg ha h1 => exact ⟨_, rfl, by simpa using ha, h1⟩
theorem VR.tuple_inv {ρ : Rn} {a : Array Value} {v' : Value} (h : VR ρ (.tuple a) v') : ∃ a', v' = .tuple a' ∧ VRs ρ a.toList a'.toList := by
 cases h with
 | flat h => simp [flat0] at h
 | tuple ha h1 => exact ⟨_, rfl, by simpa using ha, h1⟩
theorem VR.mk_agg {ρ : Rn} {a a' : Array Value} (h : VRs ρ a.toList a'.toList) : VR ρ (.agg a) (.agg a') := .agg (by simpa using h.1) h.2
theorem VR.mk_tuple {ρ : Rn} {a a' : Array Value} (h : VRs ρ a.toList a'.toList) : VR ρ (.tuple a) (.tuple a') := .tuple (by simpa using h.1) h.2
theorem VR.flat1_eq {ρ : Rn} {v v' : Value} (h : VR ρ v v') (hf : Am.flat1 v = true) : v' = v := by
 by_cases ha : ∃ a, v = .agg a
 · obtain ⟨a, rfl⟩ := ha
   obtain ⟨a', rfl, hl⟩ := h.agg_inv
   have hfl : ∀ x ∈ a.toList, flat0 x = true := List.all_eq_true.1 hf
   have : a'.toList = a.toList := by
    apply List.ext_getElem? ; intro k
    cases hk : a.toList[k]? with
    | none => exact hl.get_none hk
    | some x =>
     obtain ⟨x', hx', hr⟩ := hl.get hk
     rw [hx', hr.of_flat (hfl x (List.mem_of_getElem? hk))]
   rw [Array.toList_inj.1 this]
 · refine h.of_flat ?_
   cases v <;> first | exact hf | (exact absurd ⟨_, rfl⟩ ha)
theorem VR.oneCell {ρ : Rn} {v v' : Value} (h : VR ρ v v') (ho : oneCell v = true) : v'.oneCell' = true := by
 cases h <;> first | rfl | (simp [Am.oneCell] at ho; done) | (rename_i h; revert ho; cases v <;> simp [Am.oneCell, Value.oneCell'])

/-! ### objects -/
section rel
variable (P : Program) (w0 : World)

def Thawed (n : Nat) (fz : Nat × Nat) : Prop := ∀ x, x < n → ¬ (fz.1 ≤ x ∧ x < fz.2)
def KindRel (L : Loc) (cs : Array Value) (n : Nat) (fz : Nat × Nat) (e t : TypeId) : CK → Prop
 | .ro => sizeT P e = some L.m
 | .rs => sizeT P e = some L.m ∧ ∀ j, j < n → ¬ (fz.1 ≤ L.s + j ∧ L.s + j < fz.2)
 | .exact => w0.heap.size ≤ L.b ∧ L.s = 0 ∧ cs.size = n ∧ Thawed cs.size fz ∧ t = e
 | .grown _ => w0.heap.size ≤ L.b ∧ Thawed cs.size fz ∧ L.e = cs.size ∧ sizeT P e = some L.m ∧ t = e
 | .stale => w0.heap.size ≤ L.b ∧ sizeT P e = some L.m ∧ t = e
def EntRel (ρ : Rn) (e e' : MapEntry) : Prop := e'.key = e.key ∧ flat1 e.key = true ∧ e'.born = e.born ∧ VR ρ e.val e'.val
def EntsRel (ρ : Rn) (l l' : List MapEntry) : Prop := l.length = l'.length ∧ ∀ (k : Nat) (e e' : MapEntry), l[k]? = some e → l'[k]? = some e' → EntRel ρ e e'
def ObjRel (ρ : Rn) (w : World) (i : Nat) : AObj → Prop
 | .dead => True
 | .cells vs e k => ∃ L cs t fz, ρ i = some L ∧ w.heap[L.b]? = some (.cells cs t fz) ∧ (∀ (j : Nat) (v : Value), vs[j]? = some v → ∃ v', cs[L.s + j]? = some v' ∧ VR ρ v v') ∧ KindRel P w0 L cs vs.length fz e t k
 | .map es c => ∃ L es', ρ i = some L ∧ w0.heap.size ≤ L.b ∧ w.heap[L.b]? = some (.map es' c) ∧ EntsRel ρ es es'.toList
 | .loop tmps params assign body st pe => ∃ L r, ρ i = some L ∧ w0.heap.size ≤ L.b ∧ w.heap[L.b]? = some (.loop r) ∧ r.state = st ∧ r.pending = pe ∧ r.params.toList = params ∧ r.assign = assign ∧ r.body = body ∧ TRs ρ tmps r.tmps.toList
 | .defers => ∃ L, ρ i = some L ∧ w0.heap.size ≤ L.b ∧ w.heap[L.b]? = some (.deferred (some []))
 | .iter none _ _ _ => ∃ L a b c, (ρ i = some L ∧ L.s = 0) ∧ w0.heap.size ≤ L.b ∧ w.heap[L.b]? = some (.mapIter none a b c)
 | .iter (some r) since seen last => ∃ L M, (ρ i = some L ∧ L.s = 0) ∧ w0.heap.size ≤ L.b ∧ ρ r = some M ∧ w.heap[L.b]? = some (.mapIter (some M.b) since ⟨seen⟩ last)

def AObj.isDead : AObj → Bool
 | .dead => true
 | _ => false
def AObj.reads : AObj → Bool
 | .cells _ _ .ro | .cells _ _ .stale | .cells _ _ .rs => true
 | _ => false
def AObj.olds : AObj → List Nat
 | .cells _ _ (.grown l) => l
 | _ => []
def Share (i j : Nat) (a b : AObj) : Prop := (a.reads = true ∧ b.reads = true) ∨ j ∈ a.olds ∨ i ∈ b.olds
def OldOk (ρ : Rn) (j : Nat) (vs : List Value) (i : Nat) (o : AObj) : Prop :=
 o = .dead ∨ ∃ ws e, o = .cells ws e .stale ∧ ∀ L M, ρ j = some L → ρ i = some M → M.b = L.b → M.s + ws.length ≤ L.s + vs.length
structure Rel (ρ : Rn) (σ : St) (w : World) : Prop where
 glob : ∀ g, g < P.globals.size → ∃ L, ρ g = some L ∧ L.b = g ∧ L.s = 0
 objs : ∀ i o, σ.obj i = some o → ObjRel P w0 ρ w i o
 dom : ∀ i, σ.n ≤ i → ρ i = none
 lt : ∀ i o, σ.obj i = some o → i < σ.n
 loc : ∀ i L, ρ i = some L → L.b < w.heap.size
 sep : ∀ i j a b L M, i ≠ j → σ.obj i = some a → σ.obj j = some b → a.isDead = false → b.isDead = false → ρ i = some L → ρ j = some M → L.b = M.b → Share i j a b
 old : ∀ j vs e olds, σ.obj j = some (.cells vs e (.grown olds)) → ∀ i ∈ olds, i < σ.n ∧ ∀ o, σ.obj i = some o → OldOk ρ j vs i o
 base : Below w0.heap.size w0 w
end rel

theorem EntsRel.mono {ρ ρ' : Rn} (he : Ext ρ ρ') {l l' : List MapEntry} (h : EntsRel ρ l l') : EntsRel ρ' l l' :=
 ⟨h.1, fun k e e' a b => let ⟨x, y, z, u⟩ := h.2 k e e' a b; ⟨x, y, z, u.mono he⟩⟩
theorem ObjRel.frame {P : Program} {w0 : World} {ρ ρ' : Rn} {w w' : World} {i : Nat} {o : AObj} (he : Ext ρ ρ') (hb : ∀ L, ρ i = some L → w'.heap[L.b]? = w.heap[L.b]?) (h : ObjRel P w0 ρ w i o) : ObjRel P w0 ρ' w' i o := by
 cases o with
 | dead => trivial
 | cells vs e k =>
  obtain ⟨L, cs, t, fz, h1, h2, h3, h4⟩ := h
  exact ⟨L, cs, t, fz, he _ _ h1, (hb L h1).trans h2, fun j v hj => let ⟨v', a, b⟩ := h3 j v hj; ⟨v', a, b.mono he⟩, h4⟩
 | map es c =>
  obtain ⟨L, es', h1, h2, h3, h4⟩ := h
  exact ⟨L, es', he _ _ h1, h2, (hb L h1).trans h3, h4.mono he⟩
 | loop tmps params assign body st pe =>
  obtain ⟨L, r, h1, h2, h3, h4, h5, h6, h7, h8, h9⟩ := h
  exact ⟨L, r, he _ _ h1, h2, (hb L h1).trans h3, h4, h5, h6, h7, h8, h9.mono he⟩
 | defers =>
  obtain ⟨L, h1, h2, h3⟩ := h
  exact ⟨L, he _ _ h1, h2, (hb L h1).trans h3⟩
 | iter m since seen last =>
  cases m with
  | none => obtain ⟨L, a, b, c, h1, h2, h3⟩ := h; exact ⟨L, a, b, c, ⟨he _ _ h1.1, h1.2⟩, h2, (hb L h1.1).trans h3⟩
  | some r => obtain ⟨L, M, h1, h2, h3, h4⟩ := h; exact ⟨L, M, ⟨he _ _ h1.1, h1.2⟩, h2, he _ _ h3, (hb L h1.1).trans h4⟩
theorem ObjRel.loc {P : Program} {w0 : World} {ρ : Rn} {w : World} {i : Nat} {o : AObj} (h : ObjRel P w0 ρ w i o) (hd : o.isDead = false) : ∃ L, ρ i = some L := by
 cases o with
 | dead => cases hd
 | cells vs e k => obtain ⟨L, _, _, _, h1, _⟩ := h; exact ⟨L, h1⟩
 | map es c => obtain ⟨L, _, h1, _⟩ := h; exact ⟨L, h1⟩
 | loop _ _ _ _ _ _ => obtain ⟨L, _, h1, _⟩ := h; exact ⟨L, h1⟩
 | defers => obtain ⟨L, h1, _⟩ := h; exact ⟨L, h1⟩
 | iter m since seen last => cases m with
  | none => obtain ⟨L, _, _, _, h1, _⟩ := h; exact ⟨L, h1.1⟩
  | some r => obtain ⟨L, _, h1, _⟩ := h; exact ⟨L, h1.1⟩

/-! ### steps -/
def Fr (ρ : Rn) (w w' : World) : Prop := w.heap.size ≤ w'.heap.size ∧ ∀ c, c < w.heap.size → (∀ i L, ρ i = some L → L.b ≠ c) → w'.heap[c]? = w.heap[c]?
def Nw (ρ ρ' : Rn) (w : World) : Prop := ∀ i L, ρ' i = some L → ρ i = some L ∨ w.heap.size ≤ L.b ∨ ∃ j M, ρ j = some M ∧ M.b = L.b
structure Stp (ρ : Rn) (w : World) (ρ' : Rn) (w' : World) : Prop where
 ext : Ext ρ ρ'
 fr : Fr ρ w w'
 nw : Nw ρ ρ' w
theorem Stp.refl (ρ : Rn) (w : World) : Stp ρ w ρ w := ⟨.refl ρ, ⟨Nat.le_refl _, fun _ _ _ => rfl⟩, fun _ _ h => .inl h⟩
theorem Stp.trans {ρ ρ1 ρ2 : Rn} {w w1 w2 : World} (h : Stp ρ w ρ1 w1) (k : Stp ρ1 w1 ρ2 w2) : Stp ρ w ρ2 w2 := by
 refine ⟨h.ext.trans k.ext, ⟨Nat.le_trans h.fr.1 k.fr.1, fun c hc hn => ?_⟩, fun i L hi => ?_⟩
 · rw [k.fr.2 c (Nat.lt_of_lt_of_le hc h.fr.1) (fun i L hi => ?_), h.fr.2 c hc hn]
   rcases h.nw i L hi with h1 | h1 | ⟨j, M, h1, h2⟩
   · exact hn i L h1
   · omega
   · rw [← h2]; exact hn j M h1
 · rcases k.nw i L hi with h1 | h1 | ⟨j, M, h1, h2⟩
   · exact h.nw i L h1
   · exact .inr (.inl (Nat.le_trans h.fr.1 h1))
   · rcases h.nw j M h1 with h3 | h3 | ⟨q, N, h3, h4⟩
     · exact .inr (.inr ⟨j, M, h3, h2⟩)
     · exact .inr (.inl (by omega))
     · exact .inr (.inr ⟨q, N, h3, by omega⟩)

def Rn.put (ρ : Rn) (i : Nat) (L : Loc) : Rn := fun j => if j = i then some L else ρ j
theorem Rn.ext_put {ρ : Rn} {i : Nat} {L : Loc} (h : ρ i = none) : Ext ρ (ρ.put i L) := fun j M hj => by
 unfold Rn.put
 by_cases e : j = i
 · subst e; rw [h] at hj; cases hj
 · rw [if_neg e]; exact hj
theorem Rn.put_same (ρ : Rn) (i : Nat) (L : Loc) : ρ.put i L i = some L := if_pos rfl

section upd
variable {P : Program} {w0 : World} {ρ : Rn} {σ : St} {w : World}

theorem Rel.new (h : Rel P w0 ρ σ w) (o : AObj) (ob : Obj) (L : Loc) (hL : L.b = w.heap.size)
 (ho : ∀ ρ' : Rn, Ext ρ ρ' → ρ' σ.n = some L → ObjRel P w0 ρ' (w.alloc ob) σ.n o)
 (hold : ∀ i ∈ o.olds, i < σ.n ∧ ∀ x, σ.obj i = some x → x = .dead ∨ ∃ ws e, x = .cells ws e .stale) :
 Rel P w0 (ρ.put σ.n L) (σ.new o) (w.alloc ob) ∧ Stp ρ w (ρ.put σ.n L) (w.alloc ob) := by
 have hnone := h.dom σ.n (Nat.le_refl _)
 have he : Ext ρ (ρ.put σ.n L) := Rn.ext_put hnone
 have hold : ∀ k, k < w.heap.size → (w.alloc ob).heap[k]? = w.heap[k]? := fun k hk => by show (w.heap.push ob)[k]? = _; rw [Array.getElem?_push, if_neg (by omega)]
 have hsz : (w.alloc ob).heap.size = w.heap.size + 1 := Array.size_push _
 have hput : ∀ j M, ρ.put σ.n L j = some M → (j = σ.n ∧ M = L) ∨ (j ≠ σ.n ∧ ρ j = some M) := fun j M hj => by
  unfold Rn.put at hj
  by_cases e : j = σ.n
  · rw [if_pos e] at hj; injection hj with hj; exact .inl ⟨e, hj.symm⟩
  · rw [if_neg e] at hj; exact .inr ⟨e, hj⟩
 have hobj : ∀ j x, (σ.new o).obj j = some x → (j = σ.n ∧ x = o) ∨ (j ≠ σ.n ∧ σ.obj j = some x) := fun j x hx => by
  rw [obj_new] at hx
  by_cases e : j = σ.n
  · rw [if_pos e] at hx; injection hx with hx; exact .inl ⟨e, hx.symm⟩
  · rw [if_neg e] at hx; exact .inr ⟨e, hx⟩
 refine ⟨⟨fun g hg => let ⟨M, h1, h2⟩ := h.glob g hg; ⟨M, he _ _ h1, h2⟩, fun j x hx => ?_, fun j hj => ?_, fun j x hx => ?_, fun j M hj => ?_, fun i j a b M N hij ha hb hda hdb hM hN hMN => ?_, fun j vs e olds hj i hi => ?_, ?_⟩, he, ⟨by omega, fun c hc _ => hold c hc⟩, fun j M hj => ?_⟩
 · rcases hobj j x hx with ⟨e, ex⟩ | ⟨e, hx⟩
   · subst e ex; exact ho _ he (Rn.put_same _ _ _)
   · exact (h.objs j x hx).frame he fun M hM => hold _ (h.loc j M hM)
 · have hj' : σ.n + 1 ≤ j := hj
   unfold Rn.put; rw [if_neg (by omega)]; exact h.dom j (by omega)
 · rcases hobj j x hx with ⟨e, _⟩ | ⟨_, hx⟩
   · subst e; exact Nat.lt_succ_self _
   · exact Nat.lt_succ_of_lt (h.lt j x hx)
 · rcases hput j M hj with ⟨_, e⟩ | ⟨_, hM⟩
   · subst e; omega
   · have := h.loc j M hM; omega
 · rcases hput i M hM with ⟨ei, eM⟩ | ⟨ei, hM'⟩ <;> rcases hput j N hN with ⟨ej, eN⟩ | ⟨ej, hN'⟩
   · omega
   · have := h.loc j N hN'; rw [eM] at hMN; omega
   · have := h.loc i M hM'; rw [eN] at hMN; omega
   · rcases hobj i a ha with ⟨e, _⟩ | ⟨_, ha'⟩
     · exact absurd e ei
     · rcases hobj j b hb with ⟨e, _⟩ | ⟨_, hb'⟩
       · exact absurd e ej
       · exact h.sep i j a b M N hij ha' hb' hda hdb hM' hN' hMN
 · rcases hobj j _ hj with ⟨e1, e2⟩ | ⟨e1, hj'⟩
   · subst e1 e2
     obtain ⟨h1, h2⟩ := hold i hi
     refine ⟨Nat.lt_succ_of_lt h1, fun x hx => ?_⟩
     rcases hobj i x hx with ⟨e3, _⟩ | ⟨_, hx'⟩
     · omega
     · rcases h2 x hx' with h3 | ⟨ws, e', h3⟩
       · exact .inl h3
       · refine .inr ⟨ws, e', h3, fun L1 M hL1 hM hb => ?_⟩
         rcases hput _ _ hL1 with ⟨_, e4⟩ | ⟨e4, _⟩
         · rcases hput _ _ hM with ⟨e5, _⟩ | ⟨_, hM'⟩
           · omega
           · have := h.loc i M hM'; rw [e4] at hb; omega
         · exact absurd rfl e4
   · obtain ⟨h1, h2⟩ := h.old j vs e olds hj' i hi
     refine ⟨Nat.lt_succ_of_lt h1, fun x hx => ?_⟩
     rcases hobj i x hx with ⟨e3, _⟩ | ⟨e3, hx'⟩
     · omega
     · rcases h2 x hx' with h3 | ⟨ws, e', h3, h4⟩
       · exact .inl h3
       · refine .inr ⟨ws, e', h3, fun L1 M hL1 hM hb => ?_⟩
         rcases hput _ _ hL1 with ⟨e4, _⟩ | ⟨_, hL1'⟩
         · exact absurd e4 e1
         · rcases hput _ _ hM with ⟨e5, _⟩ | ⟨_, hM'⟩
           · exact absurd e5 e3
           · exact h4 L1 M hL1' hM' hb
 · exact ⟨h.base.os, h.base.tape, h.base.output, by have := h.base.size; omega, fun k hk => (hold k (Nat.lt_of_lt_of_le hk h.base.size)).trans (h.base.block k hk)⟩
 · rcases hput j M hj with ⟨_, e⟩ | ⟨_, hM⟩
   · subst e; exact .inr (.inl (by omega))
   · exact .inl hM

theorem Rel.drew (h : Rel P w0 ρ σ w) : Rel P w0 ρ σ w.drew :=
 ⟨h.glob, fun i o hi => (h.objs i o hi).frame (.refl ρ) fun _ _ => rfl, h.dom, h.lt, h.loc, h.sep, h.old, h.base.os, h.base.tape, h.base.output, h.base.size, h.base.block⟩
theorem Stp.drew (ρ : Rn) (w : World) : Stp ρ w ρ w.drew := ⟨.refl ρ, ⟨Nat.le_refl _, fun _ _ _ => rfl⟩, fun _ _ h => .inl h⟩

theorem Rel.upd (h : Rel P w0 ρ σ w) {σ' : St} {w' : World} {b : Nat} (hb : w0.heap.size ≤ b) (hin : ∃ i L, ρ i = some L ∧ L.b = b) (hn : σ'.n = σ.n)
 (hsz : w'.heap.size = w.heap.size) (hother : ∀ c, c ≠ b → w'.heap[c]? = w.heap[c]?) (hos : w'.os = w.os) (htape : w'.tape = w.tape) (hout : w'.output = w.output)
 (hobj : ∀ j x, σ'.obj j = some x → (x.isDead = true ∧ j < σ.n) ∨ (σ.obj j = some x ∧ ∀ L, ρ j = some L → L.b ≠ b) ∨ (j < σ.n ∧ ObjRel P w0 ρ w' j x))
 (hsep : ∀ i j x y L M, i ≠ j → σ'.obj i = some x → σ'.obj j = some y → x.isDead = false → y.isDead = false → ρ i = some L → ρ j = some M → L.b = M.b → Share i j x y)
 (hold : ∀ j vs e olds, σ'.obj j = some (.cells vs e (.grown olds)) → ∀ i ∈ olds, i < σ.n ∧ ∀ o, σ'.obj i = some o → OldOk ρ j vs i o) :
 Rel P w0 ρ σ' w' ∧ Stp ρ w ρ w' := by
 refine ⟨⟨h.glob, fun j x hx => ?_, fun j hj => h.dom j (by omega), fun j x hx => ?_, fun j L hj => by rw [hsz]; exact h.loc j L hj, hsep, fun j vs e olds hj i hi => by rw [hn]; exact hold j vs e olds hj i hi, ?_⟩, .refl ρ, ⟨by omega, fun c _ hc => ?_⟩, fun _ _ h => .inl h⟩
 · rcases hobj j x hx with ⟨hd, _⟩ | ⟨hx', hL⟩ | ⟨_, hr⟩
   · cases x <;> simp [AObj.isDead] at hd; trivial
   · exact (h.objs j x hx').frame (.refl ρ) fun L hL' => hother _ (hL L hL')
   · exact hr
 · rw [hn]
   rcases hobj j x hx with ⟨_, hl⟩ | ⟨hx', _⟩ | ⟨hl, _⟩
   · exact hl
   · exact h.lt j x hx'
   · exact hl
 · exact ⟨hos.trans h.base.os, htape.trans h.base.tape, hout.trans h.base.output, by have := h.base.size; omega, fun k hk => (hother k (by omega)).trans (h.base.block k hk)⟩
 · obtain ⟨i, L, hi, e⟩ := hin
   exact hother c (fun e' => hc i L hi (by omega))
end upd
end Go.Am

namespace Go.Am
open Go.RowKit

theorem ba_toList (s : ByteArray) : s.toList = s.data.toList := by
 have h : ∀ (n i : Nat) (r : List UInt8), s.size - i = n → ByteArray.toList.loop s i r = r.reverse ++ s.data.toList.drop i := by
  intro n
  induction n with
  | zero =>
   intro i r hn
   unfold ByteArray.toList.loop
   have : ¬ i < s.size := by omega
   rw [if_neg this, List.drop_eq_nil_of_le (by show s.data.toList.length ≤ i; have : s.size = s.data.toList.length := rfl; omega), List.append_nil]
  | succ n ih =>
   intro i r hn
   unfold ByteArray.toList.loop
   have hi : i < s.size := by omega
   rw [if_pos hi, ih (i + 1) _ (by omega)]
   have hl : i < s.data.toList.length := hi
   rw [List.drop_eq_getElem_cons hl]
   have e : s.data[i]! = s.data.toList[i] := by rw [getElem!_pos s.data i hi]; rfl
   simp [ByteArray.get!, e]
 have := h s.size 0 [] (by omega)
 simpa [ByteArray.toList] using this

section num
variable {K : Value → Bool}
theorem ltI_eq (x y : Int) : ltI x y = decide (x < y) := by
 cases x <;> cases y <;> simp only [ltI, Nat.blt] <;> (rw [Bool.eq_iff_iff]; simp only [decide_eq_true_eq, Nat.ble_eq]; (try simp); omega)
theorem eqI_eq (x y : Int) : eqI x y = (x == y) := by
 cases x <;> cases y <;> simp only [eqI] <;> (rw [Bool.eq_iff_iff]; simp only [Nat.beq_eq, beq_iff_eq]; (try simp); try omega)
theorem kindEq_iff {j k : IntKind} (h : kindEq j k = true) : j = k := by cases j <;> cases k <;> first | rfl | (simp [kindEq] at h)
theorem wrap_in (k : IntKind) (n : Int) (h0 : k.min ≤ n) (h1 : n ≤ k.max) : k.wrap n = n := by
 cases k <;> simp [IntKind.min, IntKind.max, IntKind.bits, IntKind.signed] at h0 h1 <;> simp [IntKind.wrap, IntKind.bits, IntKind.signed] <;> omega
theorem wrapI_eq (k : IntKind) (n : Int) : wrapI k n = k.wrap n := by
 have hb : ∀ m c : Nat, Nat.blt m c = true → m < c := fun m c h => Nat.le_of_ble_eq_true h
 have e1 : IntKind.i64.min = -9223372036854775808 := by decide
 have e2 : IntKind.i64.max = 9223372036854775807 := by decide
 have e3 : IntKind.u64.min = 0 := by decide
 have e4 : IntKind.u64.max = 18446744073709551615 := by decide
 have e5 : IntKind.u8.min = 0 := by decide
 have e6 : IntKind.u8.max = 255 := by decide
 cases k
 case i64 =>
  cases n with
  | ofNat m =>
   unfold wrapI; dsimp only
   split
   · rename_i h; have := hb _ _ h; exact (wrap_in .i64 (m : Int) (by omega) (by omega)).symm
   · rfl
  | negSucc m =>
   unfold wrapI; dsimp only
   split
   · rename_i h; have := hb _ _ h; exact (wrap_in .i64 (Int.negSucc m) (by omega) (by omega)).symm
   · rfl
 case u64 =>
  cases n with
  | ofNat m =>
   unfold wrapI; dsimp only
   split
   · rename_i h; have := hb _ _ h; exact (wrap_in .u64 (m : Int) (by omega) (by omega)).symm
   · rfl
  | negSucc m => rfl
 case u8 =>
  cases n with
  | ofNat m =>
   unfold wrapI; dsimp only
   split
   · rename_i h; have := hb _ _ h; exact (wrap_in .u8 (m : Int) (by omega) (by omega)).symm
   · rfl
  | negSucc m => rfl
 all_goals rfl
theorem intK_eq (k : IntKind) (n : Int) : intK k n K = K (.int k (k.wrap n)) := by simp [intK, forceI_eq, wrapI_eq]
theorem boolK_eq (b : Bool) : boolK b K = K (.bool b) := by simp [boolK, forceB_eq]

theorem intBinK_sound {op : BinOp} {k : IntKind} {x y : Int} (h : intBinK op k x y K = true) :
 ∃ v, K v = true ∧ flat0 v = true ∧ op ≠ .shl ∧ op ≠ .shr ∧ ∀ (P : Program) (t : TypeId) (w : World), (binOp op t (.int k x) (.int k y)).run P w = .ok v w := by
 have ea : ∀ a b : Int, Int.add a b = a + b := fun _ _ => rfl
 have es : ∀ a b : Int, Int.sub a b = a - b := fun _ _ => rfl
 have em : ∀ a b : Int, Int.mul a b = a * b := fun _ _ => rfl
 cases op <;> simp only [intBinK, intK_eq, boolK_eq, forceI_eq, ltI_eq, eqI_eq, ea, es, em] at h
 case quo =>
  split at h
  · cases h
  · rename_i hy
    have hy' : y ≠ 0 := by simpa using hy
    exact ⟨_, h, rfl, by simp, by simp, fun P t w => by simp [binOp, Op.intDiv, hy']⟩
 case rem =>
  split at h
  · cases h
  · rename_i hy
    have hy' : y ≠ 0 := by simpa using hy
    exact ⟨_, h, rfl, by simp, by simp, fun P t w => by simp [binOp, Op.intDiv, hy']⟩
 all_goals first
  | cases h; done
  | exact ⟨_, h, rfl, by simp, by simp, fun P t w => by first | (simp [binOp, Op.intArith, Op.intBits, Op.intCmp, bne]; done) | (simp [binOp, Op.intCmp]; rw [Bool.eq_iff_iff]; simp)⟩

theorem shiftK_sound {op : BinOp} {k k' : IntKind} {x y : Int} (h : shiftK op k x y K = true) :
 ∃ v, K v = true ∧ flat0 v = true ∧ ∀ (P : Program) (t : TypeId) (w : World), (binOp op t (.int k x) (.int k' y)).run P w = .ok v w := by
 unfold shiftK at h
 rw [ltI_eq] at h
 split at h
 · cases h
 · rename_i hy
   have hy' : ¬ y < 0 := by simpa using hy
   cases op <;> simp only [intK_eq, forceI_eq] at h <;> first
    | cases h; done
    | exact ⟨_, h, rfl, fun P t w => by simp [binOp, Op.shift, hy']⟩
end num

section str
variable {K : Value → Bool}
theorem u8_eq_iff (a b : UInt8) : Nat.beq a.toNat b.toNat = true ↔ a = b := by
 rw [Nat.beq_eq]; exact ⟨fun h => UInt8.toNat_inj.1 h, fun h => by rw [h]⟩
theorem eqL8_eq (a b : List UInt8) : eqL8 a b = (a == b) := by
 induction a generalizing b with
 | nil => cases b <;> rfl
 | cons x a ih =>
  cases b with
  | nil => rfl
  | cons y b =>
   show (match Nat.beq x.toNat y.toNat with | true => eqL8 a b | false => false) = _
   cases h : Nat.beq x.toNat y.toNat with
   | true => simp only [ih]; have := (u8_eq_iff x y).1 h; subst this; simp
   | false =>
    have : x ≠ y := fun e => by rw [(u8_eq_iff x y).2 e] at h; cases h
    simp [this]
theorem ltL8_eq (a b : List UInt8) : ltL8 a b = Op.bytesLess a b := by
 induction a generalizing b with
 | nil => cases b <;> rfl
 | cons x a ih =>
  cases b with
  | nil => rfl
  | cons y b =>
   show (match Nat.blt x.toNat y.toNat with | true => true | false => match Nat.beq x.toNat y.toNat with | true => ltL8 a b | false => false) = _
   simp only [Op.bytesLess]
   cases h : Nat.blt x.toNat y.toNat with
   | true =>
    have : x < y := by rw [UInt8.lt_iff_toNat_lt]; have := Nat.le_of_ble_eq_true h; omega
    simp [this]
   | false =>
    have : ¬ x < y := by
     rw [UInt8.lt_iff_toNat_lt]; intro hh
     have : Nat.blt x.toNat y.toNat = true := Nat.ble_eq_true_of_le hh
     rw [this] at h; cases h
    cases h2 : Nat.beq x.toNat y.toNat with
    | true => have e := (u8_eq_iff x y).1 h2; subst e; simp [ih]
    | false =>
     have e : x ≠ y := fun e => by rw [(u8_eq_iff x y).2 e] at h2; cases h2
     simp [this, e]
theorem ba_append (a b : ByteArray) : a ++ b = ⟨⟨a.data.toList ++ b.data.toList⟩⟩ := by
 apply ByteArray.ext
 apply Array.toList_inj.1
 simp
theorem strBinK_sound {op : BinOp} {x y : ByteArray} (h : strBinK op x y K = true) :
 ∃ v, K v = true ∧ flat0 v = true ∧ ∀ (P : Program) (t : TypeId) (w : World), (binOp op t (.string x) (.string y)).run P w = .ok v w := by
 cases op <;> simp only [strBinK, boolK_eq, eqL8_eq, ltL8_eq] at h
 case add =>
  simp only [lenK_eq] at h
  split at h
  · rename_i hb
    rw [appK_eq] at h
    have hlt : x.size + y.size < 9223372036854775808 := by have := Nat.le_of_ble_eq_true hb; have e1 : x.size = x.data.toList.length := rfl; have e2 : y.size = y.data.toList.length := rfl; omega
    refine ⟨_, h, rfl, fun P t w => ?_⟩
    simp [binOp, Op.stringOp, ba_append]
    omega
  · cases h
 all_goals first
  | cases h; done
  | exact ⟨_, h, rfl, fun P t w => by simp [binOp, Op.stringOp, ba_toList]⟩
end str
end Go.Am

namespace Go.Am
open Go.RowKit

theorem add_none (b off n : Nat) : (⟨b, off, none⟩ : Addr).add n = ⟨b, off + n, none⟩ := by
 unfold Addr.add; split
 · rename_i h; subst h; rfl
 · rfl
section run
variable {P : Program} {w : World}
theorem run_loadCellsFrom (a : Addr) : ∀ (m : List Value) (i : Nat) (acc : Array Value), (∀ (j : Nat) (v : Value), m[j]? = some v → w.cell? (a.add (i + j)) = some v) →
 (loadCellsFrom a i m.length acc).run P w = .ok (acc ++ m.toArray) w := by
 intro m
 induction m with
 | nil => intro i acc _; simp [loadCellsFrom]
 | cons v m ih =>
  intro i acc h
  have h0 := h 0 v rfl
  rw [Nat.add_zero] at h0
  have h1 := ih (i + 1) (acc.push v) fun j x hj => by
   have := h (j + 1) x (by simpa using hj)
   rwa [show i + (j + 1) = i + 1 + j by omega] at this
  simp [loadCellsFrom, h0, h1]
theorem run_loadCells (a : Addr) (m : List Value) {n : Nat} (hn : m.length = n) (h : ∀ (j : Nat) (v : Value), m[j]? = some v → w.cell? (a.add j) = some v) :
 (loadCells a n).run P w = .ok ⟨m⟩ w := by
 subst hn
 have := run_loadCellsFrom (P := P) a m 0 #[] (by simpa using h)
 simpa [loadCells] using this

theorem setCell_put {b off : Nat} {cs : Array Value} {t : TypeId} {fz : Nat × Nat} (h : w.heap[b]? = some (.cells cs t fz)) (v : Value) :
 w.setCell ⟨b, off, none⟩ v = w.putObj b (.cells (cs.setIfInBounds off v) t fz) := by
 unfold World.setCell World.putObj
 congr 1
 apply Array.ext_getElem?
 intro k
 rw [Array.getElem?_modify, Array.getElem?_setIfInBounds]
 by_cases e : b = k
 · subst e
   obtain ⟨hlt, hb⟩ := Array.getElem?_eq_some_iff.1 h
   simp [hb, hlt]
 · simp [e]
theorem putObj_putObj (b : Nat) (x y : Obj) : (w.putObj b x).putObj b y = w.putObj b y := by
 unfold World.putObj
 congr 1
 apply Array.ext_getElem?
 intro k
 simp only [Array.getElem?_setIfInBounds, Array.size_setIfInBounds]
 by_cases e : b = k <;> simp [e]
theorem putObj_self {b : Nat} {x : Obj} (h : w.heap[b]? = some x) : w.putObj b x = w := by
 unfold World.putObj
 have : w.heap.setIfInBounds b x = w.heap := by
  apply Array.ext_getElem?
  intro k
  rw [Array.getElem?_setIfInBounds]
  by_cases e : b = k
  · subst e
    obtain ⟨hlt, hb⟩ := Array.getElem?_eq_some_iff.1 h
    simp [hb, hlt]
  · simp [e]
 rw [this]
theorem putObj_get {b : Nat} {x y : Obj} (h : w.heap[b]? = some y) : (w.putObj b x).heap[b]? = some x := World.putObj_heap_same (Array.getElem?_eq_some_iff.1 h).1
theorem putObj_other {b c : Nat} {x : Obj} (h : c ≠ b) : (w.putObj b x).heap[c]? = w.heap[c]? := World.putObj_heap_other h
theorem putObj_size (b : Nat) (x : Obj) : (w.putObj b x).heap.size = w.heap.size := by simp [World.putObj]

theorem run_storeCells : ∀ (new : List Value) (w : World) (b off i : Nat) (cs : Array Value) (t : TypeId) (fz : Nat × Nat), w.heap[b]? = some (.cells cs t fz) → off + i + new.length ≤ cs.size →
 (∀ x, off + i ≤ x → x < off + i + new.length → ¬ (fz.1 ≤ x ∧ x < fz.2)) → (∀ v ∈ new, v.oneCell' = true) →
 (storeCells ⟨b, off, none⟩ new i).run P w = .ok () (w.putObj b (.cells ⟨splice (off + i) new cs.toList⟩ t fz)) := by
 intro new
 induction new with
 | nil =>
  intro w b off i cs t fz h hs _ _
  have e : splice (off + i) [] cs.toList = cs.toList := by simp [splice]
  rw [e]
  simp [storeCells, putObj_self h]
 | cons v new ih =>
  intro w b off i cs t fz h hs hfz h1
  have hlt : off + i < cs.size := by simp at hs; omega
  have hc : w.cell? ⟨b, off + i, none⟩ = some cs[off + i] := by simp [World.cell?, h, hlt]
  have hf : w.frozen? ⟨b, off + i, none⟩ = false := by
   have := hfz (off + i) (Nat.le_refl _) (by simp)
   simp only [World.frozen?, h]
   simpa using this
  have hrun : (store (⟨b, off + i, none⟩ : Addr) v).run P w = .ok () (w.putObj b (.cells (cs.setIfInBounds (off + i) v) t fz)) := by
   rw [run_store P w _ v .plain (h1 v (by simp)), hc, hf, setCell_put h]; rfl
  have hih := ih (w.putObj b (.cells (cs.setIfInBounds (off + i) v) t fz)) b off (i + 1) (cs.setIfInBounds (off + i) v) t fz (putObj_get h)
   (by simp at hs ⊢; omega) (fun x hx hy => hfz x (by omega) (by simp; omega)) (fun u hu => h1 u (by simp [hu]))
  have es : splice (off + (i + 1)) new (cs.setIfInBounds (off + i) v).toList = splice (off + i) (v :: new) cs.toList := by
   apply List.ext_getElem?
   intro j
   have hl : cs.toList.length = cs.size := rfl
   rw [splice_get _ _ _ (by simp at hs ⊢; omega), splice_get _ _ _ (by simp at hs ⊢; omega)]
   simp only [Array.toList_setIfInBounds, List.length_cons]
   by_cases h2 : j = off + i
   · subst h2
     rw [if_neg (by omega), if_pos (by omega), Nat.sub_self]
     simp [hlt]
   · by_cases h3 : off + (i + 1) ≤ j ∧ j < off + (i + 1) + new.length
     · rw [if_pos h3, if_pos (by omega)]
       obtain ⟨q, rfl⟩ : ∃ q, j = off + i + (q + 1) := ⟨j - (off + i + 1), by omega⟩
       rw [show off + i + (q + 1) - (off + (i + 1)) = q by omega, show off + i + (q + 1) - (off + i) = q + 1 by omega]
       simp
     · rw [if_neg h3, if_neg (by omega), List.getElem?_set_ne (by omega)]
  simp only [storeCells, add_none]
  rw [Sem.run_bind, hrun, Result.andThen_ok, hih, putObj_putObj, es]
end run

section mem
variable {P : Program} {w0 : World} {ρ : Rn} {σ : St} {w : World}
theorem Rel.cells (h : Rel P w0 ρ σ w) {i : Nat} {vs : List Value} {e : TypeId} {k : CK} (ho : σ.obj i = some (.cells vs e k)) {L : Loc} (hL : ρ i = some L) :
 ∃ cs t fz, w.heap[L.b]? = some (.cells cs t fz) ∧ (∀ (j : Nat) (v : Value), vs[j]? = some v → ∃ v', cs[L.s + j]? = some v' ∧ VR ρ v v') ∧ KindRel P w0 L cs vs.length fz e t k := by
 obtain ⟨M, cs, t, fz, h1, h2, h3, h4⟩ := h.objs i _ ho
 rw [hL] at h1; injection h1 with h1; subst h1
 exact ⟨cs, t, fz, h2, h3, h4⟩
theorem cell_of {b : Nat} {cs : Array Value} {t : TypeId} {fz : Nat × Nat} (h : w.heap[b]? = some (.cells cs t fz)) {j : Nat} {v : Value} (hj : cs[j]? = some v) : w.cell? ⟨b, j, none⟩ = some v := by
 simp [World.cell?, h, hj]
theorem Rel.readCells (h : Rel P w0 ρ σ w) {i : Nat} {vs : List Value} {e : TypeId} {k : CK} (ho : σ.obj i = some (.cells vs e k)) {L : Loc} (hL : ρ i = some L) {off n : Nat} (hn : off + n ≤ vs.length) :
 ∃ l', VRs ρ ((vs.drop off).take n) l' ∧ l'.length = n ∧ ∀ (j : Nat) (v : Value), l'[j]? = some v → w.cell? ((⟨L.b, L.s + off, none⟩ : Addr).add j) = some v := by
 obtain ⟨cs, t, fz, h2, h3, _⟩ := h.cells ho hL
 refine ⟨(List.range n).map fun j => cs.getD (L.s + (off + j)) undef, ⟨by simp; omega, fun j v v' a b => ?_⟩, by simp, fun j v hj => ?_⟩
 · rw [List.getElem?_take] at a
   split at a
   · rename_i hj
     rw [List.getElem?_drop] at a
     obtain ⟨u, hu, hr⟩ := h3 _ v a
     simp [hj] at b
     have : cs.getD (L.s + (off + j)) undef = u := by simp [Array.getD_eq_getD_getElem?, hu]
     simp [Array.getD_eq_getD_getElem?] at this
     rw [← b, this]; exact hr
   · cases a
 · have hj' : j < n := by have := (List.getElem?_eq_some_iff.1 hj).1; simpa using this
   simp [hj'] at hj
   have hlt : off + j < vs.length := by omega
   obtain ⟨u, hu, _⟩ := h3 (off + j) vs[off + j] (List.getElem?_eq_getElem hlt)
   rw [add_none, show L.s + off + j = L.s + (off + j) by omega]
   rw [cell_of h2 hu]
   congr 1
   rw [← hj]; simp [hu]
theorem Rel.readCell (h : Rel P w0 ρ σ w) {i : Nat} {vs : List Value} {e : TypeId} {k : CK} (ho : σ.obj i = some (.cells vs e k)) {L : Loc} (hL : ρ i = some L) {o : Nat} {v : Value} (hv : vs[o]? = some v) :
 ∃ v', w.cell? ⟨L.b, L.s + o, none⟩ = some v' ∧ VR ρ v v' := by
 obtain ⟨cs, t, fz, h2, h3, _⟩ := h.cells ho hL
 obtain ⟨u, hu, hr⟩ := h3 o v hv
 exact ⟨u, cell_of h2 hu, hr⟩

theorem isAggT_run {t : TypeId} {b : Bool} (h : isAggT P t = some b) (w : World) : (isAgg t).run P w = .ok b w := by
 unfold isAggT at h
 cases hu : P.underlying t with
 | none => simp [hu] at h
 | some d =>
  simp [hu] at h
  simp only [isAgg, Sem.run_bind, run_underlying hu, Result.andThen_ok]
  subst h
  cases d <;> rfl
theorem sizeT_run {t : TypeId} {n : Nat} (h : sizeT P t = some n) (w : World) : (sizeOf t).run P w = .ok n w := by
 unfold sizeT at h
 cases hu : P.info? t with
 | none => simp [hu] at h
 | some i => simp [hu] at h; simp [sizeOf, typeInfo, hu, h]
theorem info_run {t : TypeId} {i : TypeInfo} (h : P.info? t = some i) (w : World) : (typeInfo t).run P w = .ok i w := by simp [typeInfo, h]
theorem zeroT_run {t : TypeId} {z : List Value} (h : zeroT P t = some z) (w : World) : ∃ v, (zeroValue t).run P w = .ok v w ∧ v.cells.toList = z := by
 unfold zeroT at h
 cases hu : P.info? t with
 | none => simp [hu] at h
 | some i =>
  cases hz : i.zero with
  | none => simp [hu, hz] at h
  | some v => simp [hu, hz] at h; exact ⟨v, by simp [zeroValue, typeInfo, hu, hz], h⟩

theorem loadK_sound (h : Rel P w0 ρ σ w) {t : TypeId} {a a' : Value} {K : VK} (hk : loadK P t a σ K = true) (ha : VR ρ a a') :
 ∃ v v', K v σ = true ∧ VR ρ v v' ∧ (Instr.loadAt t a').run P w = .ok v' w := by
 unfold loadK at hk
 split at hk
 · rename_i i o
   cases ha with
   | flat h => simp [flat0] at h
   | ptr hL =>
    rename_i L
    split at hk
    · rename_i hagg
      obtain ⟨vs, e, c, ho, hk⟩ := cellsK_true hk
      obtain ⟨v, hv, hk⟩ := nthK_true hk
      obtain ⟨v', hc, hr⟩ := h.readCell ho hL hv
      refine ⟨v, v', hk, hr, ?_⟩
      simp [Instr.loadAt, Instr.sureAddr, loadVar, isAggT_run hagg, hc]
    · rename_i hagg
      split at hk
      · rename_i n hsz
        obtain ⟨vs, e, c, ho, hn, hk⟩ := readK_true hk
        obtain ⟨l', hr, hl, hc⟩ := h.readCells ho hL hn
        refine ⟨_, .agg ⟨l'⟩, hk, .mk_agg hr, ?_⟩
        simp [Instr.loadAt, Instr.sureAddr, loadVar, isAggT_run hagg, sizeT_run hsz, run_loadCells _ l' hl hc]
      · cases hk
    · cases hk
 · cases hk
end mem
end Go.Am

namespace Go.Am
open Go.RowKit

section mem
variable {P : Program} {w0 : World} {ρ : Rn} {σ : St} {w : World}

theorem asIs_true : ∀ {new l : List Value}, asIs new l = true → (∀ v ∈ new, flat0 v = true) ∧ ∀ (j : Nat) (v : Value), new[j]? = some v → l[j]? = some v := by
 intro new
 induction new with
 | nil => intro l _; exact ⟨by simp, by simp⟩
 | cons a new ih =>
  intro l h
  unfold asIs at h
  rw [lrec_cons] at h
  cases l with
  | nil => cases h
  | cons b t =>
   have h2 : (match (generalizing := false) a, b with
    | .int j x, .int k y => match kindEq j k with
     | true => match eqI x y with | true => asIs new t | false => false
     | false => false
    | _, _ => false) = true := h
   split at h2
   · split at h2
     · rename_i hk
       split at h2
       · rename_i hx
         have e1 := kindEq_iff hk
         rw [eqI_eq] at hx
         have e2 := eq_of_beq hx
         subst e1 e2
         have h : asIs new t = true := h2
         obtain ⟨i1, i2⟩ := ih h
         refine ⟨fun v hv => ?_, fun j v hj => ?_⟩
         · rcases List.mem_cons.1 hv with e | hv
           · subst e; rfl
           · exact i1 v hv
         · cases j with
           | zero => simpa using hj
           | succ j => simpa using i2 j v (by simpa using hj)
       · cases h2
     · cases h2
   · cases h2
theorem writeK_sound (h : Rel P w0 ρ σ w) {i off : Nat} {new new' : List Value} {k : St → Bool} (hk : writeK σ i off new k = true) {L : Loc} (hL : ρ i = some L)
 (hn : VRs ρ new new') (h1 : ∀ v ∈ new', v.oneCell' = true) :
 ∃ σ' w', k σ' = true ∧ Rel P w0 ρ σ' w' ∧ Stp ρ w ρ w' ∧ (storeCells ⟨L.b, L.s + off, none⟩ new').run P w = .ok () w' := by
 obtain ⟨vs, e, c, ho, hk⟩ := cellsK_true hk
 obtain ⟨cs, t, fz, hb, hcell, hkind⟩ := h.cells ho hL
 -- what is common to both kinds
 have key : ∀ (σ' : St) (kd : CK) (olds : List Nat), σ'.n = σ.n → (∀ j, σ'.obj j = if j = i then some (.cells (splice off new vs) e kd) else if j ∈ olds then some .dead else σ.obj j) →
  off + new.length ≤ vs.length → w0.heap.size ≤ L.b → Thawed cs.size fz → (AObj.cells vs e c).reads = false → (∀ l, kd = .grown l → l = []) → (AObj.cells vs e c).olds = olds → (AObj.cells (splice off new vs) e kd).reads = false →
  (∀ j ∈ olds, j < σ.n) →
  (∀ cs' : Array Value, cs'.size = cs.size → KindRel P w0 L cs' vs.length fz e t kd) →
  Rel P w0 ρ σ' (w.putObj L.b (.cells ⟨splice (L.s + off) new' cs.toList⟩ t fz)) ∧ Stp ρ w ρ (w.putObj L.b (.cells ⟨splice (L.s + off) new' cs.toList⟩ t fz)) ∧
   (storeCells ⟨L.b, L.s + off, none⟩ new').run P w = .ok () (w.putObj L.b (.cells ⟨splice (L.s + off) new' cs.toList⟩ t fz)) := by
  intro σ' kd olds hσn hobj hlen hB hth hreads hkd holds hreads' holdlt hKR
  have hvl : ∀ j, j < vs.length → L.s + j < cs.size := fun j hj => by
   obtain ⟨v', hv', _⟩ := hcell j vs[j] (List.getElem?_eq_getElem hj)
   exact (Array.getElem?_eq_some_iff.1 hv').1
  have hfit : new.length = 0 ∨ L.s + off + new'.length ≤ cs.size := by
   rcases Nat.eq_zero_or_pos new.length with hz | hz
   · exact .inl hz
   · right
     have := hvl (off + new.length - 1) (by omega)
     rw [← hn.1]; omega
  have hcs : cs.toList.length = cs.size := rfl
  have hsz : (⟨splice (L.s + off) new' cs.toList⟩ : Array Value).size = cs.size := by
   rcases hfit with hz | hz
   · have : new' = [] := List.eq_nil_of_length_eq_zero (by rw [← hn.1]; exact hz)
     subst this; simp [splice]
   · show (splice (L.s + off) new' cs.toList).length = _
     rw [splice_length _ _ _ (by omega)]; exact hcs
  have hget : ∀ j : Nat, (⟨splice (L.s + off) new' cs.toList⟩ : Array Value)[j]? = if L.s + off ≤ j ∧ j < L.s + off + new'.length then new'[j - (L.s + off)]? else cs[j]? := by
   intro j
   rcases hfit with hz | hz
   · have : new' = [] := List.eq_nil_of_length_eq_zero (by rw [← hn.1]; exact hz)
     subst this
     rw [if_neg (by simp)]; simp [splice]
   · have := splice_get (L.s + off) new' cs.toList (by omega) j
     simpa using this
  have hnew : ObjRel P w0 ρ (w.putObj L.b (.cells ⟨splice (L.s + off) new' cs.toList⟩ t fz)) i (.cells (splice off new vs) e kd) := by
   refine ⟨L, _, t, fz, hL, putObj_get hb, fun j v hj => ?_, by rw [splice_length _ _ _ hlen]; exact hKR _ hsz⟩
   rw [splice_get _ _ _ hlen] at hj
   rw [hget]
   split at hj
   · rename_i hr
     rw [if_pos (by have := hn.1; omega)]
     obtain ⟨v', hv', hr'⟩ := hn.get hj
     exact ⟨v', by rw [show L.s + j - (L.s + off) = j - off by omega]; exact hv', hr'⟩
   · rename_i hr
     rw [if_neg (by have := hn.1; omega)]
     exact hcell j v hj
  -- who else lies in the block
  have halone : ∀ j x M, j ≠ i → j ∉ olds → σ.obj j = some x → x.isDead = false → ρ j = some M → M.b ≠ L.b := by
   intro j x M hj hjo hx hd hM hb'
   rcases h.sep i j _ x L M (Ne.symm hj) ho hx rfl hd hL hM hb'.symm with ⟨hr, _⟩ | hs | hs
   · rw [hreads] at hr; cases hr
   · rw [holds] at hs; exact hjo hs
   · cases x with
     | cells ws e' kk =>
      cases kk with
      | grown l =>
       obtain ⟨_, h2⟩ := h.old j ws e' l hx i hs
       rcases h2 _ ho with h3 | ⟨_, _, h3, _⟩
       · cases h3
       · injection h3 with _ _ h3; subst h3; simp [AObj.reads] at hreads
      | _ => simp [AObj.olds] at hs
     | _ => simp [AObj.olds] at hs
  have hcase : ∀ j x, σ'.obj j = some x → (j = i ∧ x = .cells (splice off new vs) e kd) ∨ (j ≠ i ∧ j ∈ olds ∧ x = .dead) ∨ (j ≠ i ∧ j ∉ olds ∧ σ.obj j = some x) := by
   intro j x hx
   rw [hobj] at hx
   by_cases e1 : j = i
   · rw [if_pos e1] at hx; injection hx with hx; exact .inl ⟨e1, hx.symm⟩
   · rw [if_neg e1] at hx
     by_cases e2 : j ∈ olds
     · rw [if_pos e2] at hx; injection hx with hx; exact .inr (.inl ⟨e1, e2, hx.symm⟩)
     · rw [if_neg e2] at hx; exact .inr (.inr ⟨e1, e2, hx⟩)
  have hrel := h.upd (σ' := σ') (w' := w.putObj L.b (.cells ⟨splice (L.s + off) new' cs.toList⟩ t fz)) (b := L.b) hB ⟨i, L, hL, rfl⟩ hσn (putObj_size _ _) (fun c hc => putObj_other hc) rfl rfl rfl
   (fun j x hx => by
    rcases hcase j x hx with ⟨e1, e2⟩ | ⟨e1, e2, e3⟩ | ⟨e1, e2, hx'⟩
    · subst e1 e2; exact .inr (.inr ⟨h.lt _ _ ho, hnew⟩)
    · subst e3; exact .inl ⟨rfl, holdlt _ e2⟩
    · cases hd : x.isDead with
      | true => exact .inl ⟨rfl, h.lt _ _ hx'⟩
      | false => exact .inr (.inl ⟨hx', fun M hM => halone j x M e1 e2 hx' hd hM⟩))
   (fun p q x y M N hpq hx hy hdx hdy hM hN hMN => by
    rcases hcase p x hx with ⟨e1, e2⟩ | ⟨_, _, e3⟩ | ⟨e1, e2, hx'⟩
    · rcases hcase q y hy with ⟨f1, _⟩ | ⟨_, _, f3⟩ | ⟨f1, f2, hy'⟩
      · exact absurd (e1.trans f1.symm) hpq
      · subst f3; cases hdy
      · subst e1; rw [hL] at hM; injection hM with hM; subst hM
        exact absurd hMN.symm (halone q y N f1 f2 hy' hdy hN)
    · subst e3; cases hdx
    · rcases hcase q y hy with ⟨f1, _⟩ | ⟨_, _, f3⟩ | ⟨f1, f2, hy'⟩
      · subst f1; rw [hL] at hN; injection hN with hN; subst hN
        exact absurd hMN (halone p x M e1 e2 hx' hdx hM)
      · subst f3; cases hdy
      · exact h.sep p q x y M N hpq hx' hy' hdx hdy hM hN hMN)
   (fun j ws e' l hj q hq => by
    rcases hcase j _ hj with ⟨e1, e2⟩ | ⟨_, _, e3⟩ | ⟨e1, e2, hj'⟩
    · injection e2 with _ _ e2
      have := hkd l e2.symm; subst this; cases hq
    · cases e3
    · obtain ⟨g1, g2⟩ := h.old j ws e' l hj' q hq
      refine ⟨g1, fun o hqo => ?_⟩
      rcases hcase q o hqo with ⟨f1, f2⟩ | ⟨_, _, f3⟩ | ⟨_, _, hq'⟩
      · subst f1
        rcases g2 _ ho with g3 | ⟨_, _, g3, _⟩
        · cases g3
        · injection g3 with _ _ g3; subst g3; simp [AObj.reads] at hreads
      · exact .inl f3
      · exact g2 o hq')
  refine ⟨hrel.1, hrel.2, ?_⟩
  rcases hfit with hz | hz
  · have : new' = [] := List.eq_nil_of_length_eq_zero (by rw [← hn.1]; exact hz)
    subst this
    have e1 : splice (L.s + off) [] cs.toList = cs.toList := by simp [splice]
    rw [e1, putObj_self hb]
    simp [storeCells]
  · have := run_storeCells (P := P) new' w L.b (L.s + off) 0 cs t fz hb (by omega) (fun x hx hy => hth x (by omega)) h1
    simpa using this
 -- numbers that are there
 have asis : asIs new (vs.drop off) = true → k σ = true → (∀ j, j < vs.length → ¬ (fz.1 ≤ L.s + j ∧ L.s + j < fz.2)) →
  ∃ σ' w', k σ' = true ∧ Rel P w0 ρ σ' w' ∧ Stp ρ w ρ w' ∧ (storeCells ⟨L.b, L.s + off, none⟩ new').run P w = .ok () w' := by
  intro hs hk2 hth
  obtain ⟨s1, s2⟩ := asIs_true hs
  have hnn : new' = new := by
   apply List.ext_getElem?; intro j
   cases hj : new[j]? with
   | none => exact hn.get_none hj
   | some v =>
    obtain ⟨v', hv', hr⟩ := hn.get hj
    rw [hv', hr.of_flat (s1 v (List.mem_of_getElem? hj))]
  subst hnn
  have hcur : ∀ j v, new'[j]? = some v → cs[L.s + off + j]? = some v := fun j v hj => by
   obtain ⟨v', hv', hr⟩ := hcell (off + j) v (by have := s2 j v hj; rw [List.getElem?_drop] at this; exact this)
   rw [← Nat.add_assoc] at hv'
   rw [hv', hr.of_flat (s1 v (List.mem_of_getElem? hj))]
  have hvlt : ∀ j, j < new'.length → off + j < vs.length := fun j hj => by
   have := s2 j new'[j] (List.getElem?_eq_getElem hj)
   rw [List.getElem?_drop] at this
   exact (List.getElem?_eq_some_iff.1 this).1
  rcases Nat.eq_zero_or_pos new'.length with hz | hz
  · have : new' = [] := List.eq_nil_of_length_eq_zero hz
    subst this
    exact ⟨σ, w, hk2, h, .refl ρ w, by simp [storeCells]⟩
  · have hle : L.s + off + new'.length ≤ cs.size := by
     have := hcur (new'.length - 1) _ (List.getElem?_eq_getElem (by omega))
     have := (Array.getElem?_eq_some_iff.1 this).1
     omega
    have hrun := run_storeCells (P := P) new' w L.b (L.s + off) 0 cs t fz hb (by omega) (fun x hx hy => by
     have := hth (x - L.s) (by have := hvlt (x - L.s - off) (by omega); omega)
     rwa [show L.s + (x - L.s) = x by omega] at this) h1
    have hsp : splice (L.s + off) new' cs.toList = cs.toList := by
     apply List.ext_getElem?; intro j
     rw [splice_get _ _ _ (by simpa using hle)]
     split
     · rename_i hj
       rw [List.getElem?_eq_getElem (by omega)]
       have := hcur (j - (L.s + off)) _ (List.getElem?_eq_getElem (by omega))
       rw [show L.s + off + (j - (L.s + off)) = j by omega] at this
       simpa using this.symm
     · rfl
    refine ⟨σ, w, hk2, h, .refl ρ w, ?_⟩
    have e : w.putObj L.b (.cells ⟨splice (L.s + off) new' cs.toList⟩ t fz) = w := by rw [hsp]; exact putObj_self hb
    simpa [e] using hrun
 cases c with
 | exact =>
  simp only [spliceK_eq] at hk
  split at hk
  · rename_i hlen
    rw [setK_eq] at hk
    obtain ⟨g1, g2, g3, g4⟩ := hkind
    obtain ⟨r1, r2, r3⟩ := key (σ.set i (.cells (splice off new vs) e .exact)) .exact [] rfl (fun j => by rw [obj_set]; simp) hlen g1 g4.1 rfl (by simp) rfl rfl (by simp)
     (fun cs' hcs' => ⟨g1, g2, by omega, by rw [hcs']; exact g4⟩)
    exact ⟨_, _, hk, r1, r2, r3⟩
  · cases hk
 | grown olds =>
  have hk2 : (dropK off vs fun l => match asIs new l with | true => k σ | false => spliceK off new vs fun vs => killK olds σ.h fun h => putK (.cells vs e (.grown [])) (Nat.succ i) h i fun h => k ⟨h, σ.n⟩) = true := hk
  clear hk
  rw [dropK_eq] at hk2
  split at hk2
  · cases hs : asIs new (vs.drop off) with
    | true =>
     rw [hs] at hk2
     obtain ⟨g1, g2, g3, g4⟩ := hkind
     refine asis hs hk2 fun j hj => g2 _ ?_
     obtain ⟨v', hv', _⟩ := hcell j _ (List.getElem?_eq_getElem hj)
     exact (Array.getElem?_eq_some_iff.1 hv').1
    | false =>
     rw [hs] at hk2
     have hk := hk2
     clear hk2
     simp only [spliceK_eq] at hk
     split at hk
     · rename_i hlen
       rw [killK_eq, putK_eq] at hk
       obtain ⟨g1, g2, g3, g4⟩ := hkind
       obtain ⟨r1, r2, r3⟩ := key ⟨Tr.putF (AObj.cells (splice off new vs) e (CK.grown [])) i.succ (olds.foldl (fun h i => h.put i AObj.dead) σ.h) i, σ.n⟩ (.grown []) olds rfl (fun j => by
        show Tr.get (Tr.putF _ (i + 1) _ i) j = _
        rw [get_putF _ _ _ _ _ (Nat.lt_succ_self i), get_kill]; rfl) hlen g1 g2 rfl (fun l hl => by injection hl with hl; exact hl.symm) rfl rfl
        (fun j hj => (h.old i vs e olds ho j hj).1) (fun cs' hcs' => ⟨g1, by rw [hcs']; exact g2, by rw [hcs']; exact g3, g4⟩)
       exact ⟨_, _, hk, r1, r2, r3⟩
     · cases hk
  · cases hk2
 | rs =>
  have hk2 : (dropK off vs fun l => match asIs new l with | true => k σ | false => false) = true := hk
  rw [dropK_eq] at hk2
  split at hk2
  · cases hs : asIs new (vs.drop off) with
    | true => rw [hs] at hk2; exact asis hs hk2 hkind.2
    | false => rw [hs] at hk2; cases hk2
  · cases hk2
 | stale => cases hk
 | ro => cases hk

theorem cellsOfK_true {v : Value} {k : List Value → Bool} (hk : cellsOfK v k = true) {v' : Value} (hv : VR ρ v v') :
 ∃ cs, k cs = true ∧ (∀ x ∈ cs, oneCell x = true) ∧ VRs ρ cs v'.cells.toList ∧ cs = v.cells.toList := by
 unfold cellsOfK at hk
 split at hk
 · rename_i cs
   rw [allB_eq] at hk
   split at hk
   · rename_i ha
     obtain ⟨a', rfl, hl⟩ := hv.agg_inv
     exact ⟨_, hk, List.all_eq_true.1 ha, hl, rfl⟩
   · cases hk
 · cases hk
 · rename_i h1 h2
   have hc : v.cells = #[v] := by cases v <;> first | rfl | exact absurd rfl (h1 _)
   have ho : oneCell v = true := by cases v <;> first | rfl | exact absurd rfl (h1 _) | exact absurd rfl (h2 _)
   have hc' : v'.cells = #[v'] := by have := hv.oneCell ho; cases v' <;> first | rfl | (simp [Value.oneCell'] at this)
   exact ⟨_, hk, by simpa using ho, by rw [hc']; exact .cons hv (.nil ρ), by rw [hc]⟩
theorem oneCells {l l' : List Value} (h : VRs ρ l l') (h1 : ∀ x ∈ l, oneCell x = true) : ∀ v ∈ l', v.oneCell' = true := by
 intro v hv
 obtain ⟨j, hj⟩ := List.getElem?_of_mem hv
 have hlt : j < l.length := by rw [h.1]; exact (List.getElem?_eq_some_iff.1 hj).1
 exact (h.2 j l[j] v (List.getElem?_eq_getElem hlt) hj).oneCell (h1 _ (List.getElem_mem _))

theorem storeK_sound (h : Rel P w0 ρ σ w) {t : TypeId} {a a' x x' : Value} {k : St → Bool} (hk : storeK P t a x σ k = true) (ha : VR ρ a a') (hx : VR ρ x x') :
 ∃ σ' w', k σ' = true ∧ Rel P w0 ρ σ' w' ∧ Stp ρ w ρ w' ∧ (Instr.storeAt t a' x').run P w = .ok () w' := by
 unfold storeK at hk
 split at hk
 · rename_i i o
   cases ha with
   | flat h => simp [flat0] at h
   | ptr hL =>
    rename_i L
    split at hk
    · rename_i n hsz
      obtain ⟨cs, hk, h1, hcs, _⟩ := cellsOfK_true hk hx
      rw [lenK_eq] at hk
      split at hk
      · rename_i hn
        have hn' : cs.length = n := Nat.eq_of_beq_eq_true hn
        obtain ⟨σ', w', hk', r1, r2, r3⟩ := writeK_sound h hk hL hcs (oneCells hcs h1)
        refine ⟨σ', w', hk', r1, r2, ?_⟩
        have hsz' : x'.cells.size = n := by rw [← hn', hcs.1]; rfl
        simp [Instr.storeAt, Instr.sureAddr, storeVar, sizeT_run hsz, hsz', r3]
      · cases hk
    · cases hk
 · cases hk

theorem Rel.newCells (h : Rel P w0 ρ σ w) {cs cs' : List Value} (hcs : VRs ρ cs cs') (t : TypeId) (m : Nat) :
 Rel P w0 (ρ.put σ.n ⟨w.heap.size, 0, cs'.length, m⟩) (σ.new (.cells cs t .exact)) (w.alloc (.cells ⟨cs'⟩ t)) ∧ Stp ρ w (ρ.put σ.n ⟨w.heap.size, 0, cs'.length, m⟩) (w.alloc (.cells ⟨cs'⟩ t)) := by
 refine h.new _ _ _ rfl (fun ρ' he hρ' => ⟨_, ⟨cs'⟩, t, (0, 0), hρ', ?_, fun j v hj => ?_, ?_⟩) (by simp [AObj.olds])
 · show (w.heap.push _)[w.heap.size]? = _; simp
 · obtain ⟨v', hv', hr⟩ := hcs.get hj
   exact ⟨v', by simpa using hv', hr.mono he⟩
 · exact ⟨h.base.size, rfl, hcs.1.symm, fun x _ hx => by simp at hx, rfl⟩
theorem Rel.newGrown (h : Rel P w0 ρ σ w) {cs cs' more : List Value} (hcs : VRs ρ cs cs') (e : TypeId) {m : Nat} (hm : sizeT P e = some m) (fz : Nat × Nat) (hfz : Thawed (cs' ++ more).length fz) (olds : List Nat)
 (hold : ∀ i ∈ olds, i < σ.n ∧ ∀ x, σ.obj i = some x → x = .dead ∨ ∃ ws e, x = .cells ws e .stale) :
 Rel P w0 (ρ.put σ.n ⟨w.heap.size, 0, (cs' ++ more).length, m⟩) (σ.new (.cells cs e (.grown olds))) (w.alloc (.cells ⟨cs' ++ more⟩ e fz)) ∧ Stp ρ w (ρ.put σ.n ⟨w.heap.size, 0, (cs' ++ more).length, m⟩) (w.alloc (.cells ⟨cs' ++ more⟩ e fz)) := by
 refine h.new _ _ _ rfl (fun ρ' he hρ' => ⟨_, ⟨cs' ++ more⟩, e, fz, hρ', ?_, fun j v hj => ?_, ?_⟩) hold
 · show (w.heap.push _)[w.heap.size]? = _; simp
 · obtain ⟨v', hv', hr⟩ := hcs.get hj
   refine ⟨v', ?_, hr.mono he⟩
   have hlt : j < cs'.length := (List.getElem?_eq_some_iff.1 hv').1
   have e1 : (⟨cs' ++ more⟩ : Array Value)[0 + j]? = (cs' ++ more)[j]? := by simp
   exact e1.trans (by rw [List.getElem?_append_left hlt]; exact hv')
 · exact ⟨h.base.size, hfz, rfl, hm, rfl⟩
end mem
end Go.Am

namespace Go.Am
open Go.RowKit

section mem
variable {P : Program} {w0 : World} {ρ : Rn} {σ : St} {w : World}

structure ARel (P : Program) (ρ : Rn) (A : AAct) (a : Act) : Prop where
 tmps : TRs ρ A.tmps a.tmps.toList
 g : A.g = P.globals.size

theorem evK_sound (h : Rel P w0 ρ σ w) {A : AAct} {a : Act} (hA : ARel P ρ A a) {x : Operand} {k : Value → Bool} (hk : evK A x k = true) : ∃ v, k v = true ∧ VR ρ v (a.eval x) := by
 obtain ⟨v, hv, h1⟩ := evK_true hk
 refine ⟨v, hv, ?_⟩
 rcases h1 with ⟨t, rfl, ht⟩ | ⟨rfl, hf⟩ | ⟨g, rfl, hg, rfl⟩ | ⟨f, rfl, rfl⟩
 · obtain ⟨v', hv', hr⟩ := hA.tmps.get ht
   have e : a.tmps.getD t undef = v' := by
    rw [Array.getElem?_toList] at hv'
    simp [Array.getD_eq_getD_getElem?, hv']
   show VR ρ v (a.tmps.getD t undef)
   rw [e]; exact hr
 · exact .flat1 hf
 · obtain ⟨L, h1, h2, h3⟩ := h.glob g (by rw [← hA.g]; exact hg)
   have := VR.ptr (o := 0) h1
   rw [h2, h3] at this
   exact this
 · exact .func rfl rfl (by simp) (by simp)
theorem evsK_sound (h : Rel P w0 ρ σ w) {A : AAct} {a : Act} (hA : ARel P ρ A a) : ∀ {xs : List Operand} {k : List Value → Bool}, evsK A xs k = true → ∃ vs, k vs = true ∧ VRs ρ vs (xs.map a.eval) := by
 intro xs
 induction xs with
 | nil => intro k hk; exact ⟨[], hk, .nil ρ⟩
 | cons x xs ih =>
  intro k hk
  obtain ⟨v, hv, hr⟩ := evK_sound h hA (show evK A x (fun v => evsK A xs fun vs => k (v :: vs)) = true from hk)
  obtain ⟨vs, hvs, hrs⟩ := ih hv
  exact ⟨v :: vs, hvs, .cons hr hrs⟩
theorem optK_sound (h : Rel P w0 ρ σ w) {A : AAct} {a : Act} (hA : ARel P ρ A a) {x : Option Operand} {k : Option Value → Bool} (hk : optK A x k = true) :
 ∃ v, k v = true ∧ (v = none ∧ x = none ∨ ∃ u y, v = some u ∧ x = some y ∧ VR ρ u (a.eval y)) := by
 cases x with
 | none => exact ⟨none, hk, .inl ⟨rfl, rfl⟩⟩
 | some x => obtain ⟨v, hv, hr⟩ := evK_sound h hA (show evK A x (fun v => k (some v)) = true from hk); exact ⟨some v, hv, .inr ⟨v, x, rfl, rfl, hr⟩⟩
theorem putAK_sound {A : AAct} {a : Act} (hA : ARel P ρ A a) {d : Option Tmp} {v v' : Value} (hv : VR ρ v v') {k : AAct → Bool} (hk : putAK A d v k = true) :
 ∃ A', k A' = true ∧ ARel P ρ A' (a.put d v') ∧ A'.marks = A.marks := by
 cases d with
 | none => exact ⟨A, hk, hA, rfl⟩
 | some d =>
  obtain ⟨hd, hk⟩ := setTK_true (show setTK v A.tmps d (fun ts => k ⟨ts, A.marks, A.g⟩) = true from hk)
  exact ⟨_, hk, ⟨by simpa [Act.put] using hA.tmps.set hd hv, hA.g⟩, rfl⟩
theorem ARel.mono {ρ' : Rn} (he : Ext ρ ρ') {A : AAct} {a : Act} (h : ARel P ρ A a) : ARel P ρ' A a := ⟨h.tmps.mono he, h.g⟩

/-! ### equality -/
theorem eqCellK_sound {t : TypeId} {a b a' b' : Value} {k : Bool → Bool} (hk : eqCellK P t a b k = true) (ha : VR ρ a a') (hb : VR ρ b b') :
 ∃ e, k e = true ∧ flat0 a = true ∧ flat0 b = true ∧ plainT P t = true ∧ ∀ (d : Nat) (w : World), (Op.equalIn (d + 1) t a' b').run P w = .ok e w := by
 unfold eqCellK at hk
 split at hk
 · rename_i kd hu
   split at hk
   · rename_i j x l y
     split at hk
     · rename_i hj
       rw [forceB_eq, eqI_eq] at hk
       have := kindEq_iff hj; subst this
       rw [ha.of_flat rfl, hb.of_flat rfl]
       exact ⟨_, hk, rfl, rfl, by simp [plainT, hu], fun d w => run_equalIn_int w d t j kd x y hu⟩
     · cases hk
   · cases hk
 · rename_i hu
   split at hk
   · rename_i x y
     rw [forceB_eq, eqL8_eq, ← ba_toList, ← ba_toList] at hk
     rw [ha.of_flat rfl, hb.of_flat rfl]
     exact ⟨_, hk, rfl, rfl, by simp [plainT, hu], fun d w => run_equalIn_string w d t x y hu⟩
   · cases hk
 · rename_i hu
   split at hk
   · rename_i x y
     rw [forceB_eq] at hk
     rw [ha.of_flat rfl, hb.of_flat rfl]
     exact ⟨_, hk, rfl, rfl, by simp [plainT, hu], fun d w => run_equalIn_bool' w d t x y hu⟩
   · cases hk
 · cases hk
theorem plainT_agg {t : TypeId} (h : plainT P t = true) : isAggT P t = some false := by
 unfold plainT at h
 unfold isAggT
 split at h <;> rename_i hu <;> first | (rw [hu]; rfl) | cases h
theorem part_run {t : TypeId} (h : plainT P t = true) {cs : Array Value} {off : Nat} {v : Value} (hv : cs.toList[off]? = some v) (w : World) : (part t cs off).run P w = .ok v w := by
 rw [Array.getElem?_toList] at hv
 simp [part, isAggT_run (plainT_agg h), hv]
theorem eqCellsK_sound : ∀ (fs : List Field) (i : Nat) (a b : List Value) (X Y : Array Value) (k : Bool → Bool), plainFields P i fs = true → eqCellsK P fs a b k = true →
 VRs ρ a (X.toList.drop i) → VRs ρ b (Y.toList.drop i) → ∃ e, k e = true ∧ ∀ (d : Nat) (w : World), (Op.eqFields (d + 1) X Y fs).run P w = .ok e w := by
 intro fs
 induction fs with
 | nil => intro i a b X Y k _ hk _ _; exact ⟨true, hk, fun d w => rfl⟩
 | cons f fs ih =>
  intro i a b X Y k hp hk ha hb
  simp only [plainFields, Bool.and_eq_true, beq_iff_eq, bne_iff_ne] at hp
  obtain ⟨⟨⟨hname, hoff⟩, hpl⟩, hrest⟩ := hp
  cases a with
  | nil => cases hk
  | cons x a =>
   cases b with
   | nil => cases hk
   | cons y b =>
    have hk' : eqCellK P f.type x y (fun e => match e with | true => eqCellsK P fs a b k | false => k false) = true := hk
    obtain ⟨x', tx, ex, hx, htx⟩ := ha.inv_cons
    obtain ⟨y', ty, ey, hy, hty⟩ := hb.inv_cons
    obtain ⟨e, he, _, _, _, hrun⟩ := eqCellK_sound hk' hx hy
    have gx : X.toList[i]? = some x' := by have := congrArg (·[0]?) ex; simpa [List.getElem?_drop] using this
    have gy : Y.toList[i]? = some y' := by have := congrArg (·[0]?) ey; simpa [List.getElem?_drop] using this
    have dx : X.toList.drop (i + 1) = tx := by have := congrArg List.tail ex; simpa [List.tail_drop] using this
    have dy : Y.toList.drop (i + 1) = ty := by have := congrArg List.tail ey; simpa [List.tail_drop] using this
    cases e with
    | false =>
     refine ⟨false, he, fun d w => ?_⟩
     simp [Op.eqFields, hname, hoff, part_run hpl gx, part_run hpl gy, hrun]
    | true =>
     obtain ⟨e, he, hr⟩ := ih (i + 1) a b X Y k hrest he (by rw [dx]; exact htx) (by rw [dy]; exact hty)
     refine ⟨e, he, fun d w => ?_⟩
     simp [Op.eqFields, hname, hoff, part_run hpl gx, part_run hpl gy, hrun, hr]
theorem plainS_spec {t : TypeId} {fs : List Field} (h : plainS P t = some fs) : P.underlying t = some (.struct (P.fieldsOf t)) ∧ (P.fieldsOf t).toList = fs ∧ plainFields P 0 fs = true ∧ P.stoodInHeld t = false ∧ P.eqGuardType P.depth t = false := by
 unfold plainS at h
 split at h
 · rename_i gs hu
   split at h
   · rename_i hc
     injection h with h
     simp only [Bool.and_eq_true, Bool.not_eq_true'] at hc
     have e : P.fieldsOf t = gs := by simp [Program.fieldsOf, hu]
     rw [e]
     exact ⟨hu, h, by rw [← h]; exact hc.1.1, hc.1.2, hc.2⟩
   · cases h
 · cases h
/-! '==' with nil, case by case -/
section nils
variable (w : World) (d : Nat) {t : TypeId}
theorem eqn1 {e : TypeId} (h : P.underlying t = some (.pointer e)) (a : Addr) : (Op.equalIn (d + 1) t (.pointer (some a)) (.pointer none)).run P w = .ok false w := by simp [Op.equalIn, run_underlying h]
theorem eqn2 {e : TypeId} (h : P.underlying t = some (.pointer e)) (a : Addr) : (Op.equalIn (d + 1) t (.pointer none) (.pointer (some a))).run P w = .ok false w := by simp [Op.equalIn, run_underlying h]
theorem eqn3 {e : TypeId} (h : P.underlying t = some (.pointer e)) : (Op.equalIn (d + 1) t (.pointer none) (.pointer none)).run P w = .ok true w := by simp [Op.equalIn, run_underlying h]
theorem eqn4 {e : TypeId} (h : P.underlying t = some (.slice e)) (a : Addr) (n c m q : Nat) : (Op.equalIn (d + 1) t (.slice (some a) n c) (.slice none m q)).run P w = .ok false w := by simp [Op.equalIn, run_underlying h]
theorem eqn5 {e : TypeId} (h : P.underlying t = some (.slice e)) (a : Addr) (n c m q : Nat) : (Op.equalIn (d + 1) t (.slice none m q) (.slice (some a) n c)).run P w = .ok false w := by simp [Op.equalIn, run_underlying h]
theorem eqn6 {e : TypeId} (h : P.underlying t = some (.slice e)) (n c m q : Nat) : (Op.equalIn (d + 1) t (.slice none m q) (.slice none n c)).run P w = .ok true w := by simp [Op.equalIn, run_underlying h]
theorem eqn7 {e f : TypeId} (h : P.underlying t = some (.map e f)) (a : Nat) : (Op.equalIn (d + 1) t (.map (some a)) (.map none)).run P w = .ok false w := by simp [Op.equalIn, run_underlying h]
theorem eqn8 {e f : TypeId} (h : P.underlying t = some (.map e f)) (a : Nat) : (Op.equalIn (d + 1) t (.map none) (.map (some a))).run P w = .ok false w := by simp [Op.equalIn, run_underlying h]
theorem eqn9 {e f : TypeId} (h : P.underlying t = some (.map e f)) : (Op.equalIn (d + 1) t (.map none) (.map none)).run P w = .ok true w := by simp [Op.equalIn, run_underlying h]
theorem eqn10 {e f : Array TypeId} {v : Bool} (h : P.underlying t = some (.func e f v)) (a : Fn) (x y : Array Value) : (Op.equalIn (d + 1) t (.func a x y) .nilFunc).run P w = .ok false w := by simp [Op.equalIn, run_underlying h]
theorem eqn11 {e f : Array TypeId} {v : Bool} (h : P.underlying t = some (.func e f v)) (a : Fn) (x y : Array Value) : (Op.equalIn (d + 1) t .nilFunc (.func a x y)).run P w = .ok false w := by simp [Op.equalIn, run_underlying h]
theorem eqn12 {e f : Array TypeId} {v : Bool} (h : P.underlying t = some (.func e f v)) : (Op.equalIn (d + 1) t .nilFunc .nilFunc).run P w = .ok true w := by simp [Op.equalIn, run_underlying h]
theorem eqn13 {m : Array (String × TypeId)} (h : P.underlying t = some (.interface m)) (u : TypeId) (x : Value) : (Op.equalIn (d + 1) t (.iface u x) .nilIface).run P w = .ok false w := by simp [Op.equalIn, run_underlying h]
theorem eqn14 {m : Array (String × TypeId)} (h : P.underlying t = some (.interface m)) (u : TypeId) (x : Value) : (Op.equalIn (d + 1) t .nilIface (.iface u x)).run P w = .ok false w := by simp [Op.equalIn, run_underlying h]
end nils
def Look : Value → Value → Prop
 | .pointer (some _), v' => ∃ a, v' = .pointer (some a)
 | .slice (some _) _ _, v' => ∃ a : Addr × Nat × Nat, v' = .slice (some a.1) a.2.1 a.2.2
 | .map (some _), v' => ∃ b, v' = .map (some b)
 | .func _ _ _, v' => ∃ a : Fn × Array Value × Array Value, v' = .func a.1 a.2.1 a.2.2
 | .iface t _, v' => ∃ u, v' = .iface t u
 | .pointer none, v' => ∃ _ : Unit, v' = .pointer none
 | .slice none n c, v' => ∃ _ : Unit, v' = .slice none n c
 | .map none, v' => ∃ _ : Unit, v' = .map none
 | .nilFunc, v' => ∃ _ : Unit, v' = .nilFunc
 | .nilIface, v' => ∃ _ : Unit, v' = .nilIface
 | _, _ => True
theorem VR.look {v v' : Value} (h : VR ρ v v') : Look v v' := by
 cases h with
 | flat h =>
  cases v
  case pointer a => cases a with | none => exact ⟨(), rfl⟩ | some a => simp [flat0] at h
  case slice a n c => cases a with | none => exact ⟨(), rfl⟩ | some a => simp [flat0] at h
  case map a => cases a with | none => exact ⟨(), rfl⟩ | some a => simp [flat0] at h
  case func => simp [flat0] at h
  case iface => simp [flat0] at h
  case nilFunc => exact ⟨(), rfl⟩
  case nilIface => exact ⟨(), rfl⟩
  all_goals trivial
 | ptr _ => exact ⟨_, rfl⟩
 | slice _ => exact ⟨(_, _, _), rfl⟩
 | sliceIn _ _ _ _ _ => exact ⟨(_, _, _), rfl⟩
 | sliceE => exact ⟨(_, _, _), rfl⟩
 | sliceR _ => exact ⟨(_, _, _), rfl⟩
 | map _ => exact ⟨_, rfl⟩
 | func _ _ _ _ => exact ⟨(_, _, _), rfl⟩
 | yield _ => exact ⟨(_, _, _), rfl⟩
 | meth _ => exact ⟨(_, _, _), rfl⟩
 | iface _ => exact ⟨_, rfl⟩
 | agg _ _ => trivial
 | tuple _ _ => trivial
theorem equalK_sound {t : TypeId} {a b a' b' : Value} {k : Bool → Bool} (hk : equalK P t a b k = true) (ha : VR ρ a a') (hb : VR ρ b b') :
 ∃ e, k e = true ∧ (∀ (w : World), (Op.equal t a' b').run P w = .ok e w) ∧ (∀ (op : BinOp) (x y : Operand) (w : World), (eqGuard op t x y a' b').run P w = .ok () w) := by
 have guard : ∀ (op : BinOp) (x y : Operand) (w : World), (∀ xs, a' ≠ .agg xs) → (a' = .nilIface → b' ≠ .nilIface) → (eqGuard op t x y a' b').run P w = .ok () w := by
  intro op x y w h1 h2
  unfold eqGuard
  cases op <;> cases a' <;> cases b' <;> first | rfl | exact absurd rfl (h1 _) | exact absurd rfl (h2 rfl)
 unfold equalK at hk
 split at hk
 · rename_i xs ys
   split at hk
   · rename_i fs hfs
     obtain ⟨h1, h2, h3, h4, h5⟩ := plainS_spec hfs
     obtain ⟨xs', rfl, hx⟩ := ha.agg_inv
     obtain ⟨ys', rfl, hy⟩ := hb.agg_inv
     obtain ⟨e, he, hr⟩ := eqCellsK_sound fs 0 _ _ xs' ys' k h3 hk (by simpa using hx) (by simpa using hy)
     refine ⟨e, he, fun w => ?_, fun op x y w => run_eqGuard_agg w op t x y xs' ys' h5⟩
     show (Op.equalIn (9999 + 1) t _ _).run P w = _
     rw [run_equalIn_struct w 9999 t xs' ys' h1 h4, h2]; exact hr 9998 w
   · cases hk
 all_goals first
  | cases hk; done
  | (split at hk <;> first
   | cases hk; done
   | (rename_i hu
      rw [forceB_eq] at hk
      have ea := ha.of_flat rfl
      have eb := hb.of_flat rfl
      rw [ea, eb] at guard
      rw [ea, eb]
      exact ⟨_, hk, fun w => run_equal_bool w t _ _ hu, fun op x y w => guard op x y w (by simp) (by simp)⟩)
   | (rename_i hu
      obtain ⟨_, ea⟩ := ha.look
      obtain ⟨_, eb⟩ := hb.look
      refine ⟨_, hk, fun w => ?_, fun op x y w => guard op x y w ?_ ?_⟩
      · show (Op.equalIn (9999 + 1) t _ _).run P w = _
        rw [ea, eb]
        first
         | exact eqn1 w 9999 hu _ | exact eqn2 w 9999 hu _ | exact eqn3 w 9999 hu | exact eqn4 w 9999 hu _ _ _ _ _ | exact eqn5 w 9999 hu _ _ _ _ _ | exact eqn6 w 9999 hu _ _ _ _ | exact eqn7 w 9999 hu _ | exact eqn8 w 9999 hu _
         | exact eqn9 w 9999 hu | exact eqn10 w 9999 hu _ _ _ | exact eqn11 w 9999 hu _ _ _ | exact eqn12 w 9999 hu | exact eqn13 w 9999 hu _ _ | exact eqn14 w 9999 hu _ _
      · intro xs e; rw [ea] at e; cases e
      · intro e e2; rw [ea] at e; rw [eb] at e2; first | (cases e; done) | (cases e2; done)))
end mem
end Go.Am

namespace Go.Am
open Go.RowKit
section mem
variable {P : Program} {w0 : World} {ρ : Rn} {σ : St} {w : World}

def numeric : Value → Bool
 | .int _ _ | .float _ _ | .complex _ _ _ | .string _ => true
 | _ => false
theorem VR.numeric {v v' : Value} (h : VR ρ v v') : numeric v' = numeric v := by cases h <;> rfl
theorem equalK_shape {t : TypeId} {a b : Value} {k : Bool → Bool} (hk : equalK P t a b k = true) : numeric a = false := by
 cases a <;> first | rfl | (unfold equalK at hk; cases hk)
theorem binOp_eql {t : TypeId} {a b : Value} (h : numeric a = false) : binOp .eql t a b = (do pure (.bool (← Op.equal t a b))) := by
 cases a <;> cases b <;> first | rfl | (simp [numeric] at h)
theorem binOp_neq {t : TypeId} {a b : Value} (h : numeric a = false) : binOp .neq t a b = (do pure (.bool (!(← Op.equal t a b)))) := by
 cases a <;> cases b <;> first | rfl | (simp [numeric] at h)
theorem guard_num (op : BinOp) (t : TypeId) (x y : Operand) {a b : Value} (ha : numeric a = true) (w : World) : (eqGuard op t x y a b).run P w = .ok () w := by
 unfold eqGuard
 cases op <;> cases a <;> first | (simp [numeric] at ha; done) | (cases b <;> rfl)

theorem binK_sound {op : BinOp} {t : TypeId} {a b a' b' : Value} {K : Value → Bool} (hk : binK P op t a b K = true) (ha : VR ρ a a') (hb : VR ρ b b') :
 ∃ v, K v = true ∧ flat0 v = true ∧ ∀ (x y : Operand) (w : World), ((do eqGuard op t x y a' b'; binOp op t a' b') : Sem Value).run P w = .ok v w := by
 unfold binK at hk
 split at hk
 · rename_i k x k' y
   rw [ha.of_flat rfl, hb.of_flat rfl]
   have fin : ∀ v, K v = true → flat0 v = true → (∀ (P : Program) (t : TypeId) (w : World), (binOp op t (.int k x) (.int k' y)).run P w = .ok v w) → ∃ v, K v = true ∧ flat0 v = true ∧ ∀ (x' y' : Operand) (w : World), ((do eqGuard op t x' y' (.int k x) (.int k' y); binOp op t (.int k x) (.int k' y)) : Sem Value).run P w = .ok v w :=
    fun v h1 h2 h3 => ⟨v, h1, h2, fun x' y' w => by rw [Sem.run_bind, guard_num op t x' y' rfl]; exact h3 P t w⟩
   split at hk
   · obtain ⟨v, h1, h2, h3⟩ := shiftK_sound (k' := k') hk; exact fin v h1 h2 h3
   · obtain ⟨v, h1, h2, h3⟩ := shiftK_sound (k' := k') hk; exact fin v h1 h2 h3
   · split at hk
     · rename_i hj
       have := kindEq_iff hj; subst this
       obtain ⟨v, h1, h2, _, _, h3⟩ := intBinK_sound hk; exact fin v h1 h2 h3
     · cases hk
 · rename_i x y
   rw [ha.of_flat rfl, hb.of_flat rfl]
   obtain ⟨v, h1, h2, h3⟩ := strBinK_sound hk
   exact ⟨v, h1, h2, fun x' y' w => by rw [Sem.run_bind, guard_num op t x' y' rfl]; exact h3 P t w⟩
 · split at hk
   · have hs := equalK_shape hk
     obtain ⟨e, he, h1, h2⟩ := equalK_sound hk ha hb
     rw [boolK_eq] at he
     exact ⟨_, he, rfl, fun x y w => by rw [Sem.run_bind, h2, Result.andThen_ok, binOp_eql (by rw [ha.numeric, hs])]; simp [h1]⟩
   · have hs := equalK_shape hk
     obtain ⟨e, he, h1, h2⟩ := equalK_sound hk ha hb
     rw [boolK_eq] at he
     exact ⟨_, he, rfl, fun x y w => by rw [Sem.run_bind, h2, Result.andThen_ok, binOp_neq (by rw [ha.numeric, hs])]; simp [h1]⟩
   · cases hk

theorem unK_sound {op : UnOp} {a a' : Value} {K : Value → Bool} (hk : unK op a K = true) (ha : VR ρ a a') :
 ∃ v, K v = true ∧ flat0 v = true ∧ ∀ (w : World), (Op.unary op a').run P w = .ok v w := by
 unfold unK at hk
 split at hk
 · rw [intK_eq] at hk
   rw [ha.of_flat rfl]
   exact ⟨_, hk, rfl, fun w => rfl⟩
 · rw [forceI_eq] at hk
   rw [ha.of_flat rfl]
   exact ⟨_, hk, rfl, fun w => rfl⟩
 · rw [boolK_eq] at hk
   rw [ha.of_flat rfl]
   exact ⟨_, hk, rfl, fun w => rfl⟩
 · cases hk

/-! ### bounds -/
theorem bndK_true {d : Nat} {x : Option Value} {k : Nat → Bool} (hk : bndK d x k = true) : ∃ n, k n = true ∧ (x = none ∧ n = d ∨ ∃ kd, x = some (.int kd (.ofNat n))) := by
 unfold bndK at hk
 split at hk
 · exact ⟨d, hk, .inl ⟨rfl, rfl⟩⟩
 · rename_i kd n; exact ⟨n, hk, .inr ⟨kd, rfl⟩⟩
 · cases hk
def OptR (ρ : Rn) (x x' : Option Value) : Prop := (x = none ∧ x' = none) ∨ ∃ v v', x = some v ∧ x' = some v' ∧ VR ρ v v'
theorem OptR.int {x x' : Option Value} (h : OptR ρ x x') {kd : IntKind} {n : Nat} (e : x = some (.int kd (.ofNat n))) : x' = some (.int kd (.ofNat n)) := by
 rcases h with ⟨h, _⟩ | ⟨v, v', h1, h2, hr⟩
 · rw [e] at h; cases h
 · rw [e] at h1; injection h1 with h1; subst h1
   rw [h2, hr.of_flat rfl]
theorem OptR.none {x x' : Option Value} (h : OptR ρ x x') (e : x = none) : x' = none := by
 rcases h with ⟨_, h⟩ | ⟨v, v', h1, _⟩
 · exact h
 · rw [e] at h1; cases h1
theorem boundsK_sound {len cap : Nat} {lo hi mx lo' hi' mx' : Option Value} {k : Nat → Nat → Nat → Bool} (hk : boundsK len cap lo hi mx k = true)
 (hl : OptR ρ lo lo') (hh : OptR ρ hi hi') (hm : OptR ρ mx mx') :
 ∃ l h m, k l h m = true ∧ l ≤ h ∧ h ≤ m ∧ m ≤ cap ∧ (mx = none → m = cap) ∧ ∀ (cap' : Nat), cap ≤ cap' → (mx' = none → mx = none) → ∀ (isSlice : Bool) (w : World), (mx' = none ∨ hi' ≠ none) →
  (Instr.sliceBounds isSlice len cap' lo' hi' mx').run P w = .ok (l, h, if mx' = none then cap' else m) w := by
 unfold boundsK at hk
 obtain ⟨m, hk, em⟩ := bndK_true hk
 obtain ⟨h, hk, eh⟩ := bndK_true hk
 obtain ⟨l, hk, el⟩ := bndK_true hk
 split at hk
 · rename_i h1 h2 h3
   have h1 := Nat.le_of_ble_eq_true h1
   have h2 := Nat.le_of_ble_eq_true h2
   have h3 := Nat.le_of_ble_eq_true h3
   refine ⟨l, h, m, hk, h1, h2, h3, fun e => ?_, fun cap' hc hmm isS w hhi => ?_⟩
   · rcases em with ⟨_, e'⟩ | ⟨kd, e'⟩
     · exact e'
     · rw [e] at e'; cases e'
   · have elo : (match lo' with | some v => Instr.sliceBound v h (if mx'.isSome then .slice3C else .sliceB) | none => (pure 0 : Sem Nat)).run P w = .ok l w := by
      rcases el with ⟨e, e'⟩ | ⟨kd, e⟩
      · rw [hl.none e, e']; rfl
      · rw [hl.int e]; simp [Instr.sliceBound, asIntOf, h1]
     rcases em with ⟨e, e'⟩ | ⟨kd, e⟩
     · have emx := hm.none e
       subst emx
       have ehi : (match hi' with | some v => Instr.sliceBound v cap' (if isS then .sliceAcap else .sliceAlen) | none => (pure len : Sem Nat)).run P w = .ok h w := by
        rcases eh with ⟨e2, e2'⟩ | ⟨kd2, e2⟩
        · rw [hh.none e2, e2']; rfl
        · rw [hh.int e2]; simp [Instr.sliceBound, asIntOf]; omega
       unfold Instr.sliceBounds
       cases hi' with
       | none =>
        simp at ehi
        cases lo' with
        | none => simp at elo; simp [elo, ehi]
        | some u => simp at elo; simp [elo, ehi]
       | some v =>
        simp at ehi
        cases lo' with
        | none => simp at elo; simp [elo, ehi]
        | some u => simp at elo; simp [elo, ehi]
     · have emx := hm.int e
       subst emx
       have hhi' : hi' ≠ none := by rcases hhi with h | h; cases h; exact h
       rcases eh with ⟨e2, _⟩ | ⟨kd2, e2⟩
       · exact absurd (hh.none e2) hhi'
       · have ehi := hh.int e2
         subst ehi
         simp only [Option.isSome_some, if_true] at elo
         have r1 : (Instr.sliceBound (.int kd (.ofNat m)) cap' (if isS then .slice3Acap else .slice3Alen)).run P w = .ok m w := by simp [Instr.sliceBound, asIntOf]; omega
         have r2 : (Instr.sliceBound (.int kd2 (.ofNat h)) m .slice3B).run P w = .ok h w := by simp [Instr.sliceBound, asIntOf]; omega
         unfold Instr.sliceBounds
         cases lo' with
         | none =>
          simp at elo
          simp only [Sem.run_bind, r1, Result.andThen_ok, r2, Sem.run_pure]
          simp [elo]
         | some u =>
          simp only at elo
          simp only [Sem.run_bind, r1, Result.andThen_ok, r2, Sem.run_pure, Option.isSome_some, if_true, elo]
          simp
 · cases hk
end mem
end Go.Am

namespace Go.Am
open Go.RowKit
section mem
variable {P : Program} {w0 : World} {ρ : Rn} {σ : St} {w : World}

theorem isSlice_spec {t e : TypeId} (h : isSlice P t = some e) : P.underlying t = some (.slice e) := by
 unfold isSlice at h
 split at h
 · rename_i hu; injection h with h; subst h; exact hu
 · cases h
theorem str_extract (s : ByteArray) (l h : Nat) (_ : h ≤ s.size) : s.extract l h = ⟨⟨(s.data.toList.take h).drop l⟩⟩ := by
 apply ByteArray.ext
 apply Array.toList_inj.1
 simp [ByteArray.data_extract, Array.toList_extract, List.extract_eq_take_drop, List.drop_take]
theorem sliceK_sound (h : Rel P w0 ρ σ w) {t : TypeId} {x x' : Value} {lo hi mx lo' hi' mx' : Option Value} {K : Value → Bool} (hk : sliceK P t x lo hi mx σ K = true)
 (hx : VR ρ x x') (hl : OptR ρ lo lo') (hh : OptR ρ hi hi') (hm : OptR ρ mx mx') (hmh : mx' = none ∨ hi' ≠ none) :
 ∃ v v', K v = true ∧ VR ρ v v' ∧ ∀ w, (Instr.sliceAt t x' lo' hi' mx').run P w = .ok v' w := by
 have hmm : mx' = none → mx = none := fun e => by
  rcases hm with ⟨h, _⟩ | ⟨_, _, _, h, _⟩
  · exact h
  · rw [e] at h; cases h
 unfold sliceK at hk
 split at hk
 · -- a text
   rename_i s
   split at hk
   · rename_i hu
     rw [hx.of_flat rfl]
     rw [lenK_eq] at hk
     obtain ⟨l, h', m, hk, h1, h2, h3, h4, hrun⟩ := boundsK_sound (P := P) hk hl hh (.inl ⟨rfl, rfl⟩)
     rw [takeK_eq] at hk
     have hsz : s.data.toList.length = s.size := rfl
     split at hk
     · rename_i hle
       rw [dropK_eq] at hk
       split at hk
       · refine ⟨_, _, hk, .flat rfl, fun w => ?_⟩
         have e1 := hm.none rfl
         subst e1
         have := hrun s.data.toList.length (Nat.le_refl _) (fun _ => rfl) false w (.inl rfl)
         rw [hsz] at this
         simp only [if_true] at this
         simp [Instr.sliceAt, run_underlying hu, Instr.slice, this, str_extract s l h' (by omega)]
       · cases hk
     · cases hk
   · cases hk
 · -- a nil slice
   rename_i len cap
   split at hk
   · rename_i e he
     have hu := isSlice_spec he
     split at hk
     · rename_i size hsz
       rw [hx.of_flat rfl]
       obtain ⟨l, h', m, hk', h1, h2, h3, h4, hrun⟩ := boundsK_sound (P := P) hk hl hh hm
       simp only [forceN_eq] at hk'
       refine ⟨_, .slice none (h' - l) (m - l), hk', .flat rfl, fun w => ?_⟩
       have := hrun cap (Nat.le_refl _) hmm true w hmh
       have em : (if mx' = none then cap else m) = m := by
        split
        · rename_i e2; exact (h4 (hmm e2)).symm
        · rfl
       rw [em] at this
       simp [Instr.sliceAt, run_underlying hu, Instr.slice, this, sizeT_run hsz]
     · cases hk
   · cases hk
 · -- a slice
   rename_i i o sp len cap
   split at hk
   · rename_i e he
     have hu := isSlice_spec he
     split at hk
     · rename_i size hsz
       obtain ⟨l, h', m, hk', h1, h2, h3, h4, hrun⟩ := boundsK_sound (P := P) hk hl hh hm
       simp only [forceN_eq] at hk'
       clear hk
       have go : ∀ (a : Addr) (cap' : Nat), cap ≤ cap' → ∀ w, (Instr.sliceAt t (.slice (some a) len cap') lo' hi' mx').run P w =
        .ok (.slice (some (if (if mx' = none then cap' else m) = l then a else a.add (l * size))) (h' - l) ((if mx' = none then cap' else m) - l)) w := by
        intro a cap' hc w
        have := hrun cap' hc hmm true w hmh
        have e1 : ∀ (q : Nat), (if q = l then some a else some (a.add (l * size))) = some (if q = l then a else a.add (l * size)) := fun q => by split <;> rfl
        simp [Instr.sliceAt, run_underlying hu, Instr.slice, this, sizeT_run hsz, e1]
       cases hx with
       | flat h => simp [flat0] at h
       | @slice _ _ _ _ L hL =>
        have em : (if mx' = none then cap else m) = m := by
         split
         · rename_i e2; exact (h4 (hmm e2)).symm
         · rfl
        have hgo := go ⟨L.b, L.s + o, none⟩ cap (Nat.le_refl _)
        simp only [em] at hgo
        replace hk' : (match Nat.beq m l with | true => K (.slice (some ⟨i, o, none⟩) (h' - l) (m - l)) | false => K (.slice (some ⟨i, o + l * size, none⟩) (h' - l) (m - l))) = true := hk'
        split at hk'
        · rename_i hml
          have hml := Nat.eq_of_beq_eq_true hml
          exact ⟨_, _, hk', .slice hL, fun w => by rw [hgo w, if_pos hml]⟩
        · rename_i hml
          have hml : m ≠ l := fun e => by subst e; simp at hml
          exact ⟨_, _, hk', .slice hL, fun w => by rw [hgo w, if_neg hml, add_none, Nat.add_assoc]⟩
       | @sliceIn _ _ _ _ c' L hL hc hn hend hmp =>
        have hgo := go ⟨L.b, L.s + o, none⟩ c' hc
        cases mx with
        | some y =>
         have hne : mx' ≠ none := fun e => by have := hmm e; cases this
         simp only [if_neg hne] at hgo
         replace hk' : (match Nat.beq m l with | true => K (.slice (some ⟨i, o, none⟩) (h' - l) (m - l)) | false => K (.slice (some ⟨i, o + l * size, none⟩) (h' - l) (m - l))) = true := hk'
         split at hk'
         · rename_i hml
           have hml := Nat.eq_of_beq_eq_true hml
           exact ⟨_, _, hk', .slice hL, fun w => by rw [hgo w, if_pos hml]⟩
         · rename_i hml
           have hml : m ≠ l := fun e => by subst e; simp at hml
           exact ⟨_, _, hk', .slice hL, fun w => by rw [hgo w, if_neg hml, add_none, Nat.add_assoc]⟩
        | none =>
         have he' := hm.none rfl
         subst he'
         simp only [if_true] at hgo
         have hm' := h4 rfl
         subst hm'
         replace hk' : (match Nat.beq m l with | true => K (.slice (some ⟨i, 0, some 1⟩) 0 0) | false => (cellsK σ i fun _ e ck => match ck, sizeT P e with | .exact, _ => false | _, some q => (match Nat.beq q size with | true => K (.slice (some ⟨i, o + l * size, some 0⟩) (h' - l) (m - l)) | false => false) | _, none => false)) = true := hk'
         split at hk'
         · rename_i hml
           have hml := Nat.eq_of_beq_eq_true hml
           have e0 : h' - l = 0 := by omega
           refine ⟨_, .slice (some (if c' = l then ⟨L.b, L.s + o, none⟩ else (⟨L.b, L.s + o, none⟩ : Addr).add (l * size))) 0 (c' - l), hk', .sliceE, fun w => ?_⟩
           rw [hgo w, e0]
         · rename_i hml
           have hml : m ≠ l := fun e => by subst e; simp at hml
           obtain ⟨vs, e', ck, ho, hk'⟩ := cellsK_true hk'
           obtain ⟨cs, tt, fz, hb, _, hkind⟩ := h.cells ho hL
           cases hq : sizeT P e' with
           | none => rw [hq] at hk'; cases ck <;> cases hk'
           | some q =>
            rw [hq] at hk'
            have hne : ck ≠ .exact := by rintro rfl; cases hk'
            have hk2 : (match Nat.beq q size with | true => K (.slice (some ⟨i, o + l * size, some 0⟩) (h' - l) (m - l)) | false => false) = true := by cases ck <;> first | exact hk' | exact absurd rfl hne
            split at hk2
            · rename_i hqs
              have hqs := Nat.eq_of_beq_eq_true hqs
              subst hqs
              have hm : L.m = q := by
               cases ck with
               | exact => exact absurd rfl hne
               | grown _ => obtain ⟨_, _, _, h5, _⟩ := hkind; rw [hq] at h5; injection h5 with h5; exact h5.symm
               | stale => obtain ⟨_, h5, _⟩ := hkind; rw [hq] at h5; injection h5 with h5; exact h5.symm
               | ro => have h5 : sizeT P e' = some L.m := hkind; rw [hq] at h5; injection h5 with h5; exact h5.symm
               | rs => have h5 := hkind.1; rw [hq] at h5; injection h5 with h5; exact h5.symm
              refine ⟨_, .slice (some ⟨L.b, L.s + (o + l * q), none⟩) (h' - l) (c' - l), hk2, (.sliceIn hL (by omega) (by omega) ?_ hmp), fun w => by rw [hgo w, if_neg (by omega), add_none, Nat.add_assoc]⟩
              rw [hm] at hend ⊢
              have : l * q + (c' - l) * q = c' * q := by rw [← Nat.add_mul]; congr 1; omega
              omega
            · cases hk2
       | @sliceE _ c' a =>
        have e0 : l = 0 ∧ h' = 0 ∧ m = 0 := by omega
        obtain ⟨rfl, rfl, rfl⟩ := e0
        have hgo := go a c' (Nat.zero_le _)
        replace hk' : K (.slice (some ⟨i, 0, some 1⟩) 0 0) = true := hk'
        refine ⟨_, .slice (some a) 0 ((if mx' = none then c' else 0) - 0), hk', .sliceE, fun w => ?_⟩
        rw [hgo w]
        simp [Addr.add]
       | @sliceR _ _ s sp2 hs2 =>
        have e0 : l = 0 ∧ h' = 0 ∧ m = 0 := by omega
        obtain ⟨rfl, rfl, rfl⟩ := e0
        have hgo := go ⟨i, o, sp2⟩ 0 (Nat.zero_le _)
        replace hk' : K (.slice (some ⟨i, 0, some 1⟩) 0 0) = true := hk'
        refine ⟨_, .slice (some ⟨i, o, sp2⟩) 0 ((if mx' = none then 0 else 0) - 0), hk', .sliceE, fun w => ?_⟩
        rw [hgo w]
        simp []
     · cases hk
   · cases hk
 · -- an array
   rename_i i o
   split at hk
   · rename_i n e hu
     split at hk
     · rename_i size hsz
       obtain ⟨l, h', m, hk', h1, h2, h3, h4, hrun⟩ := boundsK_sound (P := P) hk hl hh hm
       simp only [forceN_eq] at hk'
       clear hk
       have em : (if mx' = none then n else m) = m := by
        split
        · rename_i e2; exact (h4 (hmm e2)).symm
        · rfl
       cases hx with
       | flat h => simp [flat0] at h
       | @ptr _ _ L hL =>
        have hgo : ∀ w, (Instr.sliceAt t (.pointer (some ⟨L.b, L.s + o, none⟩)) lo' hi' mx').run P w = .ok (.slice (some (if m = l then ⟨L.b, L.s + o, none⟩ else (⟨L.b, L.s + o, none⟩ : Addr).add (l * size))) (h' - l) (m - l)) w := by
         intro w
         have := hrun n (Nat.le_refl _) hmm false w hmh
         rw [em] at this
         simp [Instr.sliceAt, run_underlying hu, Instr.sureAddr, this, sizeT_run hsz]
        split at hk'
        · rename_i hml
          have hml := Nat.eq_of_beq_eq_true hml
          exact ⟨_, _, hk', .slice hL, fun w => by rw [hgo w, if_pos hml]⟩
        · rename_i hml
          have hml : m ≠ l := fun e => by subst e; simp at hml
          exact ⟨_, _, hk', .slice hL, fun w => by rw [hgo w, if_neg hml, add_none, Nat.add_assoc]⟩
     · cases hk
   · cases hk
 · cases hk
end mem
end Go.Am

namespace Go.Am
open Go.RowKit
section mem
variable {P : Program} {w0 : World} {ρ : Rn} {σ : St} {w : World}

theorem VR.slice_inv {i o : Nat} {sp : Option Nat} {n c : Nat} {v' : Value} (h : VR ρ (.slice (some ⟨i, o, sp⟩) n c) v') :
 (∃ L c', ρ i = some L ∧ v' = .slice (some ⟨L.b, L.s + o, none⟩) n c' ∧ ((sp = none ∧ c' = c) ∨ (sp = some 0 ∧ c ≤ c' ∧ n ≤ c ∧ L.s + o + c' * L.m = L.e ∧ 0 < L.m))) ∨ ((∃ s, sp = some (s + 1)) ∧ n = 0 ∧ c = 0 ∧ ∃ a c', v' = .slice (some a) 0 c') := by
 cases h with
 | flat h => simp [flat0] at h
 | slice hL => exact .inl ⟨_, _, hL, rfl, .inl ⟨rfl, rfl⟩⟩
 | sliceIn hL hc hn he hm => exact .inl ⟨_, _, hL, rfl, .inr ⟨rfl, hc, hn, he, hm⟩⟩
 | sliceE => exact .inr ⟨⟨_, rfl⟩, rfl, rfl, _, _, rfl⟩
 | sliceR _ => exact .inr ⟨⟨_, rfl⟩, rfl, rfl, _, _, rfl⟩
theorem VR.ptr_inv {i o : Nat} {sp : Option Nat} {v' : Value} (h : VR ρ (.pointer (some ⟨i, o, sp⟩)) v') : sp = none ∧ ∃ L, ρ i = some L ∧ v' = .pointer (some ⟨L.b, L.s + o, none⟩) := by
 cases h with
 | flat h => simp [flat0] at h
 | ptr hL => exact ⟨rfl, _, hL, rfl⟩

theorem indexAddrK_sound {t : TypeId} {x x' ix ix' : Value} {K : Value → Bool} (hk : indexAddrK P t x ix K = true) (hx : VR ρ x x') (hi : VR ρ ix ix') :
 ∃ v v', K v = true ∧ VR ρ v v' ∧ ∀ w, (Instr.indexAt t x' ix').run P w = .ok v' w := by
 unfold indexAddrK at hk
 split at hk
 · rename_i kd j
   rw [hi.of_flat rfl]
   split at hk
   · rename_i b o sp len c
     rcases hx.slice_inv with ⟨L, c', hL, rfl, hsp⟩ | ⟨⟨_, rfl⟩, _⟩
     · have hk2 : (match isSlice P t with
        | some elem => (match sizeT P elem, Nat.blt j len with
         | some size, true => forceN (o + j * size) fun o => K (.pointer (some ⟨b, o, none⟩))
         | _, _ => false)
        | none => false) = true := by
        rcases hsp with ⟨rfl, _⟩ | ⟨rfl, _⟩ <;> exact hk
       split at hk2
       · rename_i e he
         have hu := isSlice_spec he
         split at hk2
         · rename_i size hsz hj
           have hj : j < len := Nat.le_of_ble_eq_true hj
           rw [forceN_eq] at hk2
           refine ⟨_, _, hk2, .ptr hL, fun w => ?_⟩
           simp [Instr.indexAt, asIntOf, run_underlying hu, hj, sizeT_run hsz, add_none, Nat.add_assoc]
         · cases hk2
       · cases hk2
     · cases hk
   · rename_i b o
     obtain ⟨_, L, hL, rfl⟩ := hx.ptr_inv
     split at hk
     · rename_i len e hu
       split at hk
       · rename_i size hsz hj
         have hj : j < len := Nat.le_of_ble_eq_true hj
         rw [forceN_eq] at hk
         refine ⟨_, _, hk, .ptr hL, fun w => ?_⟩
         simp [Instr.indexAt, asIntOf, run_underlying hu, Instr.sureAddr, hj, sizeT_run hsz, add_none, Nat.add_assoc]
       · cases hk
     · cases hk
   · cases hk
 · cases hk

theorem fieldOf_spec {s : TypeId} {f : Nat} {fd : Field} (h : fieldOf P s f = some fd) : ∃ fs, P.underlying s = some (.struct fs) ∧ fs[f]? = some fd := by
 unfold fieldOf at h
 split at h
 · rename_i fs hu; exact ⟨fs, hu, h⟩
 · cases h
theorem fieldAddrK_sound {s : TypeId} {x x' : Value} {f : Nat} {K : Value → Bool} (hk : fieldAddrK P s x f K = true) (hx : VR ρ x x') :
 ∃ v v', K v = true ∧ VR ρ v v' ∧ ∀ w, (Instr.fieldAt s x' f).run P w = .ok v' w := by
 unfold fieldAddrK at hk
 split at hk
 · rename_i b o
   obtain ⟨_, L, hL, rfl⟩ := hx.ptr_inv
   split at hk
   · rename_i fd hf
     obtain ⟨fs, hu, hfs⟩ := fieldOf_spec hf
     split at hk
     · rename_i q hsz
       rw [forceN_eq] at hk
       refine ⟨_, _, hk, .ptr hL, fun w => ?_⟩
       simp [Instr.fieldAt, run_underlying hu, hfs, Instr.sureAddr, fieldPlace, sizeT_run hsz, add_none, Nat.add_assoc]
     · cases hk
   · cases hk
 · cases hk

theorem partK_sound {t : TypeId} {cs : List Value} {cs' : Array Value} {off : Nat} {K : Value → Bool} (hk : partK P t cs off K = true) (hcs : VRs ρ cs cs'.toList) :
 ∃ v v', K v = true ∧ VR ρ v v' ∧ ∀ w, (part t cs' off).run P w = .ok v' w := by
 unfold partK at hk
 split at hk
 · rename_i hagg
   obtain ⟨v, hv, hk⟩ := nthK_true hk
   obtain ⟨v', hv', hr⟩ := hcs.get hv
   rw [Array.getElem?_toList] at hv'
   exact ⟨v, v', hk, hr, fun w => by simp [part, isAggT_run hagg, hv']⟩
 · rename_i hagg
   split at hk
   · rename_i n hsz
     rw [dropK_eq] at hk
     split at hk
     · rw [takeK_eq] at hk
       split at hk
       · rename_i h1 h2
         refine ⟨_, .agg ⟨(cs'.toList.drop off).take n⟩, hk, .mk_agg ((hcs.drop off).take n), fun w => ?_⟩
         have : cs'.extract off (off + n) = ⟨(cs'.toList.drop off).take n⟩ := by
          apply Array.toList_inj.1
          simp [Array.toList_extract, List.extract_eq_take_drop]
         simp [part, isAggT_run hagg, sizeT_run hsz, this]
       · cases hk
     · cases hk
   · cases hk
 · cases hk
theorem fieldK_sound {t : TypeId} {x x' : Value} {f : Nat} {K : Value → Bool} (hk : fieldK P t x f K = true) (hx : VR ρ x x') :
 ∃ v v', K v = true ∧ VR ρ v v' ∧ ∀ w, (Instr.field t x' f).run P w = .ok v' w := by
 unfold fieldK at hk
 split at hk
 · rename_i cs
   obtain ⟨cs', rfl, hcs⟩ := hx.agg_inv
   split at hk
   · rename_i fd hf
     obtain ⟨fs, hu, hfs⟩ := fieldOf_spec hf
     obtain ⟨v, v', h1, h2, h3⟩ := partK_sound hk hcs
     exact ⟨v, v', h1, h2, fun w => by simp [Instr.field, run_underlying hu, hfs, asAgg, h3]⟩
   · cases hk
 · cases hk
theorem indexK_sound {t : TypeId} {x x' ix ix' : Value} {K : Value → Bool} (hk : indexK P t x ix K = true) (hx : VR ρ x x') (hi : VR ρ ix ix') :
 ∃ v v', K v = true ∧ VR ρ v v' ∧ ∀ w, (Instr.index t x' ix').run P w = .ok v' w := by
 unfold indexK at hk
 split at hk
 · rename_i kd j
   rw [hi.of_flat rfl]
   split at hk
   · rename_i cs
     obtain ⟨cs', rfl, hcs⟩ := hx.agg_inv
     split at hk
     · rename_i len e hu
       split at hk
       · rename_i size hsz hj
         have hj : j < len := Nat.le_of_ble_eq_true hj
         obtain ⟨v, v', h1, h2, h3⟩ := partK_sound hk hcs
         exact ⟨v, v', h1, h2, fun w => by simp [Instr.index, asIntOf, run_underlying hu, hj, sizeT_run hsz, h3]⟩
       · cases hk
     · cases hk
   · rename_i s
     rw [hx.of_flat rfl]
     split at hk
     · rename_i hu
       obtain ⟨b, hb, hk⟩ := nthK_true hk
       rw [forceN_eq] at hk
       refine ⟨_, _, hk, .flat rfl, fun w => ?_⟩
       have hb' : s[j]? = some b := by
        rw [Array.getElem?_toList] at hb
        obtain ⟨h1, h2⟩ := Array.getElem?_eq_some_iff.1 hb
        have h3 : j < s.size := h1
        rw [getElem?_pos s j h3]
        congr 1
       simp [Instr.index, asIntOf, run_underlying hu, hb']
     · cases hk
   · cases hk
 · cases hk

/-! ### composite values -/
theorem foldl_zipIdx (l : List Value) : ∀ (off n : Nat) (cs : Array Value), off + n + l.length ≤ cs.size →
 ((l.zipIdx n).foldl (fun cs (x : Value × Nat) => cs.setIfInBounds (off + x.2) x.1) cs).toList = splice (off + n) l cs.toList := by
 induction l with
 | nil => intro off n cs _; simp [splice]
 | cons v l ih =>
  intro off n cs h
  simp only [List.zipIdx_cons, List.foldl_cons]
  rw [ih off (n + 1) _ (by simp at h ⊢; omega)]
  apply List.ext_getElem?
  intro j
  have hl : cs.toList.length = cs.size := rfl
  rw [splice_get _ _ _ (by simp at h ⊢; omega), splice_get _ _ _ (by simp at h ⊢; omega)]
  simp only [Array.toList_setIfInBounds, List.length_cons]
  by_cases h2 : j = off + n
  · subst h2
    rw [if_neg (by omega), if_pos (by omega), Nat.sub_self]
    have : off + n < cs.size := by simp at h; omega
    simp [this]
  · by_cases h3 : off + (n + 1) ≤ j ∧ j < off + (n + 1) + l.length
    · rw [if_pos h3, if_pos (by omega)]
      obtain ⟨q, rfl⟩ : ∃ q, j = off + n + (q + 1) := ⟨j - (off + n + 1), by omega⟩
      rw [show off + n + (q + 1) - (off + (n + 1)) = q by omega, show off + n + (q + 1) - (off + n) = q + 1 by omega]
      simp
    · rw [if_neg h3, if_neg (by omega), List.getElem?_set_ne (by omega)]
def PartsR (ρ : Rn) (l l' : List (Nat × Value)) : Prop := l.length = l'.length ∧ ∀ (k : Nat) (p p' : Nat × Value), l[k]? = some p → l'[k]? = some p' → p.1 = p'.1 ∧ VR ρ p.2 p'.2
theorem PartsR.inv_cons {p : Nat × Value} {l l' : List (Nat × Value)} (h : PartsR ρ (p :: l) l') : ∃ p' t', l' = p' :: t' ∧ p.1 = p'.1 ∧ VR ρ p.2 p'.2 ∧ PartsR ρ l t' := by
 cases l' with
 | nil => have := h.1; simp at this
 | cons p' t' =>
  obtain ⟨h1, h2⟩ := h.2 0 p p' rfl rfl
  exact ⟨p', t', rfl, h1, h2, by simpa using h.1, fun k q q' a b => h.2 (k + 1) q q' (by simpa using a) (by simpa using b)⟩
theorem fillK_sound {place place' : Nat → Option (Nat × Nat)} (hpl : ∀ i q, place i = some q → place' i = some q) : ∀ {parts parts' : List (Nat × Value)} {cells : List Value} {cells' : Array Value} {k : List Value → Bool},
 fillK place parts cells k = true → PartsR ρ parts parts' → VRs ρ cells cells'.toList → ∃ out out', k out = true ∧ Instr.fill place' cells' parts' = some out' ∧ VRs ρ out out'.toList ∧ out.length = cells.length := by
 intro parts
 induction parts with
 | nil =>
  intro parts' cells cells' k hk hp hc
  have : parts' = [] := List.eq_nil_of_length_eq_zero hp.1.symm
  subst this
  exact ⟨cells, cells', hk, rfl, hc, rfl⟩
 | cons p parts ih =>
  intro parts' cells cells' k hk hp hc
  obtain ⟨p', t', rfl, h1, h2, ht⟩ := hp.inv_cons
  have hk' : (match place p.1 with
   | some (off, size) => cellsOfK p.2 fun new => lenK new fun m => match Nat.beq m size with
    | true => spliceK off new cells fun cs => fillK place parts cs k
    | false => false
   | none => false) = true := hk
  split at hk'
  · rename_i off size hq
    obtain ⟨new, hk', hone, hnew, _⟩ := cellsOfK_true hk' h2
    rw [lenK_eq] at hk'
    split at hk'
    · rename_i hm
      have hm := Nat.eq_of_beq_eq_true hm
      rw [spliceK_eq] at hk'
      split at hk'
      · rename_i hlen
        have hsz : p'.2.cells.size = size := by rw [← hm, hnew.1]; rfl
        have hcl : cells.length = cells'.size := hc.1
        have hnl : new.length = p'.2.cells.size := hnew.1
        have e1 : (p'.2.cells.zipIdx.foldl (fun cs (x : Value × Nat) => cs.setIfInBounds (off + x.2) x.1) cells').toList = splice off p'.2.cells.toList cells'.toList := by
         rw [← Array.foldl_toList, Array.toList_zipIdx]
         exact foldl_zipIdx p'.2.cells.toList off 0 cells' (by have : p'.2.cells.toList.length = p'.2.cells.size := rfl; omega)
        obtain ⟨out, out', g1, g2, g3, g4⟩ := ih (cells' := p'.2.cells.zipIdx.foldl (fun cs (x : Value × Nat) => cs.setIfInBounds (off + x.2) x.1) cells') hk' ht (by rw [e1]; exact hc.splice hnew off)
        refine ⟨out, out', g1, ?_, g3, by rw [g4, splice_length _ _ _ hlen]⟩
        obtain ⟨i', v'⟩ := p'
        simp only at h1
        simp only [Instr.fill, ← h1, hpl _ _ hq]
        have c1 : (v'.cells.size != size) = false := by simp; exact hsz
        have c2 : ¬ off + v'.cells.size > cells'.size := by
         have : v'.cells.size = new.length := by rw [hnl]
         omega
        rw [if_neg (by simp; have : v'.cells.size = new.length := by rw [hnl]
                       omega)]
        exact g2
      · cases hk'
    · cases hk'
  · cases hk'
end mem
end Go.Am

namespace Go.Am
open Go.RowKit
section mem
variable {P : Program} {w0 : World} {ρ : Rn} {σ : St} {w : World}

theorem partsK_sound (h : Rel P w0 ρ σ w) {A : AAct} {a : Act} (hA : ARel P ρ A a) : ∀ {parts : List (Nat × Operand)} {k : List (Nat × Value) → Bool}, partsK A parts k = true →
 ∃ ps, k ps = true ∧ PartsR ρ ps (parts.map fun p => (p.1, a.eval p.2)) := by
 intro parts
 induction parts with
 | nil => intro k hk; exact ⟨[], hk, rfl, by simp⟩
 | cons p parts ih =>
  intro k hk
  obtain ⟨v, hv, hr⟩ := evK_sound h hA (show evK A p.2 (fun v => partsK A parts fun l => k ((p.1, v) :: l)) = true from hk)
  obtain ⟨ps, hps, hrs⟩ := ih hv
  refine ⟨(p.1, v) :: ps, hps, by simp [hrs.1], fun j q q' x y => ?_⟩
  cases j with
  | zero => simp at x y; subst x y; exact ⟨rfl, hr⟩
  | succ j => simp at x; exact hrs.2 j q q' x (by simpa using y)
theorem placesOf_run : ∀ (fs : List Field) (pl : List (Nat × Nat)), placesOf P fs = some pl → ∀ w, (fs.mapM (fun f => (do pure (f.offset, ← sizeOf f.type) : Sem (Nat × Nat)))).run P w = .ok pl w := by
 intro fs
 induction fs with
 | nil => intro pl h w; simp [placesOf] at h; subst h; rfl
 | cons f fs ih =>
  intro pl h w
  simp only [placesOf, List.mapM_cons] at h
  cases hs : sizeT P f.type with
  | none => simp [hs] at h
  | some s =>
   cases hp : fs.mapM (fun f => (sizeT P f.type).map fun s => (f.offset, s)) with
   | none => simp [hs, hp] at h
   | some pl' =>
    simp [hs, hp] at h
    subst h
    have := ih pl' hp w
    simp only [List.mapM_cons, Sem.run_bind, sizeT_run hs, Result.andThen_ok, Sem.run_pure, this]

theorem buildK_sound (h : Rel P w0 ρ σ w) {A : AAct} {a : Act} (hA : ARel P ρ A a) {t : TypeId} {parts : Array (Nat × Operand)} {K : Value → Bool} (hk : buildK P A t parts.toList K = true) :
 ∃ v v', K v = true ∧ VR ρ v v' ∧ ∀ w, (Instr.build t (parts.map fun p => (p.1, a.eval p.2))).run P w = .ok v' w := by
 unfold buildK at hk
 split at hk
 · rename_i zero fields hz hu
   split at hk
   · rename_i pl hpl
     split at hk
     · rename_i hzf
       obtain ⟨ps, hk, hps⟩ := partsK_sound h hA hk
       have hzr : VRs ρ zero zero := .flat (by rw [allB_eq] at hzf; exact List.all_eq_true.1 hzf)
       obtain ⟨out, out', g1, g2, g3, _⟩ := fillK_sound (place' := (pl.toArray[·]?)) (cells' := ⟨zero⟩) (by intro i q hq; simpa using hq) hk hps hzr
       refine ⟨_, .agg out', g1, .mk_agg g3, fun w => ?_⟩
       obtain ⟨zv, hz1, hz2⟩ := zeroT_run hz w
       have ez : zv.cells = ⟨zero⟩ := Array.toList_inj.1 hz2
       have hpr := placesOf_run fields.toList pl hpl w
       have hpr' : (fields.mapM (fun f => (do pure (f.offset, ← sizeOf f.type) : Sem (Nat × Nat)))).run P w = .ok pl.toArray w := by
        rw [Array.mapM_eq_mapM_toList, Sem.run_map, hpr]; rfl
       simp only [Instr.build, Sem.run_bind, hz1, Result.andThen_ok, run_underlying hu, hpr', ez]
       have e2 : (parts.map fun p => (p.1, a.eval p.2)).toList = parts.toList.map fun p => (p.1, a.eval p.2) := by simp
       rw [e2, g2]; rfl
     · cases hk
   · cases hk
 · rename_i zero n elem hz hu
   split at hk
   · rename_i size hsz
     split at hk
     · rename_i hzf
       obtain ⟨ps, hk, hps⟩ := partsK_sound h hA hk
       have hzr : VRs ρ zero zero := .flat (by rw [allB_eq] at hzf; exact List.all_eq_true.1 hzf)
       obtain ⟨out, out', g1, g2, g3, _⟩ := fillK_sound (place' := fun i => some (i * size, size)) (cells' := ⟨zero⟩) (by intro i q hq; exact hq) hk hps hzr
       refine ⟨_, .agg out', g1, .mk_agg g3, fun w => ?_⟩
       obtain ⟨zv, hz1, hz2⟩ := zeroT_run hz w
       have ez : zv.cells = ⟨zero⟩ := Array.toList_inj.1 hz2
       have e2 : (parts.map fun p => (p.1, a.eval p.2)).toList = parts.toList.map fun p => (p.1, a.eval p.2) := by simp
       simp only [Instr.build, Sem.run_bind, hz1, Result.andThen_ok, run_underlying hu, sizeT_run hsz, ez]
       rw [e2, g2]; rfl
     · cases hk
   · cases hk
 · cases hk

theorem Rel.newCells' (h : Rel P w0 ρ σ w) {cs cs' : List Value} (hcs : VRs ρ cs cs') (t : TypeId) {K : Nat → St → Bool} (hk : newK σ (.cells cs t .exact) K = true) :
 ∃ ρ' σ' w', K σ.n σ' = true ∧ w' = w.alloc (.cells ⟨cs'⟩ t) ∧ Rel P w0 ρ' σ' w' ∧ Stp ρ w ρ' w' ∧ ∃ L, ρ' σ.n = some L ∧ L.b = w.heap.size ∧ L.s = 0 := by
 rw [newK_eq] at hk
 obtain ⟨h1, h2⟩ := h.newCells hcs t 0
 exact ⟨_, _, _, hk, rfl, h1, h2, _, Rn.put_same _ _ _, rfl, rfl⟩
theorem Rel.newDead (h : Rel P w0 ρ σ w) (ob : Obj) {K : Nat → St → Bool} (hk : newK σ .dead K = true) :
 ∃ ρ' σ' w', K σ.n σ' = true ∧ w' = w.alloc ob ∧ Rel P w0 ρ' σ' w' ∧ Stp ρ w ρ' w' ∧ ∃ L, ρ' σ.n = some L ∧ L.b = w.heap.size ∧ L.s = 0 := by
 rw [newK_eq] at hk
 obtain ⟨h1, h2⟩ := h.new .dead ob ⟨w.heap.size, 0, 0, 0⟩ rfl (fun _ _ _ => trivial) (fun _ hi => nomatch hi)
 exact ⟨_, _, _, hk, rfl, h1, h2, _, Rn.put_same _ _ _, rfl, rfl⟩
theorem VR.ptr0 {i : Nat} {L : Loc} (h : ρ i = some L) {b : Nat} (hb : L.b = b) (hs : L.s = 0) : VR ρ (.pointer (some ⟨i, 0, none⟩)) (.pointer (some ⟨b, 0, none⟩)) := by
 have := VR.ptr (o := 0) h; rw [hb, hs] at this; exact this
theorem VR.slice0 {i : Nat} {L : Loc} (h : ρ i = some L) {b : Nat} (hb : L.b = b) (hs : L.s = 0) (n c : Nat) : VR ρ (.slice (some ⟨i, 0, none⟩) n c) (.slice (some ⟨b, 0, none⟩) n c) := by
 have := VR.slice (o := 0) (n := n) (c := c) h; rw [hb, hs] at this; exact this

theorem boxK_sound (h : Rel P w0 ρ σ w) {t : TypeId} {x x' : Value} {K : VK} (hk : boxK t x σ K = true) (hx : VR ρ x x') :
 ∃ ρ' v σ' v' w', K v σ' = true ∧ (Instr.box t x').run P w = .ok v' w' ∧ VR ρ' v v' ∧ Rel P w0 ρ' σ' w' ∧ Stp ρ w ρ' w' := by
 unfold boxK at hk
 obtain ⟨cs, hk, _, hcs, _⟩ := cellsOfK_true hk hx
 obtain ⟨ρ', σ', w', hk, hw, h1, h2, L, hL, hb, hs⟩ := h.newCells' hcs t hk
 exact ⟨ρ', _, σ', _, w', hk, by subst hw; simp [Instr.box, newVar, newRow], .ptr0 hL hb hs, h1, h2⟩
theorem allocK_sound (h : Rel P w0 ρ σ w) {t : TypeId} {K : VK} (hk : allocK P t σ K = true) :
 ∃ ρ' v σ' v' w', K v σ' = true ∧ (Instr.alloc t true (.tuple #[])).run P w = .ok v' w' ∧ VR ρ' v v' ∧ Rel P w0 ρ' σ' w' ∧ Stp ρ w ρ' w' := by
 unfold allocK at hk
 split at hk
 · rename_i zero hz
   split at hk
   · rename_i hzf
     rw [layK_eq] at hk
     have hzr : VRs ρ zero zero := .flat (by rw [allB_eq] at hzf; exact List.all_eq_true.1 hzf)
     obtain ⟨ρ', σ', w', hk, hw, h1, h2, L, hL, hb, hs⟩ := h.newCells' hzr t hk
     obtain ⟨zv, hz1, hz2⟩ := zeroT_run hz w
     have ez : zv.cells = ⟨zero⟩ := Array.toList_inj.1 hz2
     exact ⟨ρ', _, σ', _, w', hk, by subst hw; simp [Instr.alloc, hz1, newVar, newRow, ez], .ptr0 hL hb hs, h1, h2⟩
   · cases hk
 · cases hk

theorem zeroT_zero {t : TypeId} {z : List Value} (h : zeroT P t = some z) {i : TypeInfo} (hi : P.info? t = some i) : ∃ v, i.zero = some v ∧ v.cells.toList = z := by
 unfold zeroT at h
 rw [hi] at h
 cases hz : i.zero with
 | none => simp [hz] at h
 | some v => simp [hz] at h; exact ⟨v, rfl, h⟩
theorem zeros_eq (zero : List Value) (z : Array Value) (hz : z.toList = zero) (n : Nat) (h0 : zero ≠ []) : (Array.range (n * zero.length)).map (fun i => z[i % z.size]!) = ⟨(List.replicate n zero).flatten⟩ := by
 apply Array.toList_inj.1
 have hsz : z.size = zero.length := by rw [← hz]; rfl
 have hpos : 0 < zero.length := List.length_pos_iff.2 h0
 apply List.ext_getElem?
 intro j
 simp only [Array.toList_map, Array.toList_range, hsz]
 have hlen : (List.replicate n zero).flatten.length = n * zero.length := by simp
 by_cases hj : j < n * zero.length
 · rw [List.getElem?_map, List.getElem?_range hj]
   have hm : j % zero.length < zero.length := Nat.mod_lt _ hpos
   have e1 : z[j % zero.length]! = zero[j % zero.length] := by
    rw [getElem!_pos z _ (by omega)]
    subst hz; rfl
   have e2 : ∀ n j, j < n * zero.length → (List.replicate n zero).flatten[j]? = some (zero[j % zero.length]'(Nat.mod_lt _ hpos)) := by
    intro n
    induction n with
    | zero => intro j hj; simp at hj
    | succ n ih =>
     intro j hj
     simp only [List.replicate_succ, List.flatten_cons]
     by_cases h1 : j < zero.length
     · rw [List.getElem?_append_left h1, List.getElem?_eq_getElem h1]
       congr 1; simp [Nat.mod_eq_of_lt h1]
     · rw [List.getElem?_append_right (by omega), ih (j - zero.length) (by rw [Nat.succ_mul] at hj; omega)]
       congr 1
       simp only [Nat.mod_eq_sub_mod (show j ≥ zero.length by omega)]
   rw [e2 n j hj]; simp [e1]
 · rw [List.getElem?_eq_none (by simp; omega), List.getElem?_eq_none (by rw [hlen]; omega)]

theorem makeSliceK_sound (h : Rel P w0 ρ σ w) {t : TypeId} {l l' c c' : Value} {K : VK} (hk : makeSliceK P t l c σ K = true) (hl : VR ρ l l') (hc : VR ρ c c') :
 ∃ ρ' v σ' v' w', K v σ' = true ∧ (Instr.makeSlice t l' c').run P w = .ok v' w' ∧ VR ρ' v v' ∧ Rel P w0 ρ' σ' w' ∧ Stp ρ w ρ' w' := by
 unfold makeSliceK at hk
 split at hk
 · rename_i k1 l k2 c
   rw [hl.of_flat rfl, hc.of_flat rfl]
   split at hk
   · rename_i elem he
     have hu := isSlice_spec he
     split at hk
     · rename_i info zero hi hz
       split at hk
       · rename_i q h1 h2 h3 h4 h5
         have h1 := Nat.le_of_ble_eq_true h1
         have h2 := Nat.le_of_ble_eq_true h2
         have h3 := Nat.le_of_ble_eq_true h3
         have h4 := Nat.eq_of_beq_eq_true h4
         split at hk
         · rename_i hzf
           obtain ⟨zv, hzi, hz2⟩ := zeroT_zero hz hi
           have hne : zero ≠ [] := by intro e; rw [e] at h4; simp at h4; omega
           have hzs := zeros_eq zero zv.cells hz2 c hne
           have h2' : (info.bytes : Int) * (c : Int) ≤ 1099511627776 := by
            have : ((info.bytes * c : Nat) : Int) ≤ 1099511627776 := by omega
            rwa [Int.natCast_mul] at this
           have hr := run_make (P := P) w t elem info zv hu hi hzi k1 k2 l c (by omega) (by omega) (by omega) (by omega)
           simp only [Int.toNat_natCast] at hr
           have hm : madeCells zv.cells (c * info.size) = ⟨(List.replicate c zero).flatten⟩ := by rw [← hzs, h4]; rfl
           split at hk
           · rw [repK_eq] at hk
             have hzr : VRs ρ zero zero := .flat (by rw [allB_eq] at hzf; exact List.all_eq_true.1 hzf)
             obtain ⟨ρ', σ', w', hk, hw, g1, g2, L, hL, hb, hs⟩ := h.newCells' (hzr.flatten c) elem hk
             refine ⟨ρ', _, σ', _, w', hk, hr.trans ?_, .slice0 hL hb hs l c, g1, g2⟩
             rw [hw, hm]
           · obtain ⟨ρ', σ', w', hk, hw, g1, g2, L, hL, hb, hs⟩ := h.newDead (.cells ⟨(List.replicate c zero).flatten⟩ elem) hk
             refine ⟨ρ', _, σ', _, w', hk, hr.trans ?_, .slice0 hL hb hs l c, g1, g2⟩
             rw [hw, hm]
         · cases hk
       · cases hk
     · cases hk
   · cases hk
 · cases hk
end mem
end Go.Am

namespace Go.Am
open Go.RowKit
section mem
variable {P : Program} {w0 : World} {ρ : Rn} {σ : St} {w : World}

theorem buildSliceK_sound (h : Rel P w0 ρ σ w) {A : AAct} {a : Act} (hA : ARel P ρ A a) {t : TypeId} {len : Nat} {parts : Array (Nat × Operand)} {K : VK} (hk : buildSliceK P A t len parts.toList σ K = true) :
 ∃ ρ' v σ' v' w', K v σ' = true ∧ (Instr.buildSlice t len (parts.map fun p => (p.1, a.eval p.2))).run P w = .ok v' w' ∧ VR ρ' v v' ∧ Rel P w0 ρ' σ' w' ∧ Stp ρ w ρ' w' := by
 unfold buildSliceK at hk
 split at hk
 · rename_i elem he
   have hu := isSlice_spec he
   split at hk
   · rename_i size zero hsz hz
     split at hk
     · rename_i h1 h2
       have h1 := Nat.le_of_ble_eq_true h1
       have h2 := Nat.eq_of_beq_eq_true h2
       split at hk
       · rename_i hzf
         have hzr : VRs ρ zero zero := .flat (by rw [allB_eq] at hzf; exact List.all_eq_true.1 hzf)
         rw [repK_eq] at hk
         obtain ⟨ps, hk, hps⟩ := partsK_sound h hA hk
         obtain ⟨out, out', g1, g2, g3, _⟩ := fillK_sound (place' := fun i => some (i * (size + 1), size + 1)) (cells' := ⟨(List.replicate len zero).flatten⟩) (by intro i q hq; exact hq) hk hps (hzr.flatten len)
         obtain ⟨ρ', σ', w', hk, hw, r1, r2, L, hL, hb, hs⟩ := h.newCells' g3 elem g1
         refine ⟨ρ', _, σ', _, w', hk, ?_, .slice0 hL hb hs len len, r1, r2⟩
         obtain ⟨zv, hz1, hz2⟩ := zeroT_run hz w
         have hne : zero ≠ [] := by intro e; rw [e] at h2; simp at h2
         have e2 : (parts.map fun p => (p.1, a.eval p.2)).toList = parts.toList.map fun p => (p.1, a.eval p.2) := by simp
         have hc : ¬ len * (size + 1) > 2 ^ 24 := by omega
         rw [hw]
         by_cases h0 : len * (size + 1) = 0
         · have hl0 : len = 0 := by
            rcases Nat.mul_eq_zero.1 h0 with h0 | h0
            · exact h0
            · omega
           subst hl0
           have e3 : (⟨(List.replicate 0 zero).flatten⟩ : Array Value) = #[] := by simp
           rw [e3] at g2
           have e4 : ∀ f : Nat → Value, (Array.range 0).map f = #[] := fun f => by simp
           simp only [Instr.buildSlice, Sem.run_bind, run_underlying hu, Result.andThen_ok, sizeT_run hsz, Nat.zero_mul, e4, e2, g2, newRow]
           rfl
         · have hzs := zeros_eq zero zv.cells hz2 len hne
           rw [h2] at hzs
           simp only [Instr.buildSlice, Sem.run_bind, run_underlying hu, Result.andThen_ok, sizeT_run hsz, if_neg hc, if_neg h0, hz1, Sem.run_pure, hzs, e2, g2, newRow]
           rfl
       · cases hk
     · cases hk
   · cases hk
 · cases hk
end mem
end Go.Am

namespace Go.Am
open Go.RowKit
section conv
variable {P : Program} {w0 : World} {ρ : Rn} {σ : St} {w : World}

theorem u8sK_eq (l : List UInt8) (k : List Value → Bool) : u8sK l k = k (l.map fun b => .int .u8 (b.toNat : Int)) := by
 induction l generalizing k with
 | nil => rfl
 | cons b l ih =>
  show forceN b.toNat (fun n => u8sK l fun t => k (.int .u8 (.ofNat n) :: t)) = _
  rw [forceN_eq, ih]
  rfl
theorem bytesK_true : ∀ {l : List Value} {k : List UInt8 → Bool}, bytesK l k = true → ∃ ns : List Nat, k (ns.map UInt8.ofNat) = true ∧ l = ns.map (fun n => .int .u8 (.ofNat n)) := by
 intro l
 induction l with
 | nil => intro k hk; exact ⟨[], hk, rfl⟩
 | cons v l ih =>
  intro k hk
  unfold bytesK at hk
  rw [lrec_cons] at hk
  split at hk
  · rename_i n
    obtain ⟨ns, h1, h2⟩ := ih (k := fun t => k (UInt8.ofNat n :: t)) hk
    exact ⟨n :: ns, h1, by rw [h2]; rfl⟩
  · cases hk
theorem VRs.flat_eq {l l' : List Value} (h : VRs ρ l l') (hf : ∀ v ∈ l, flat0 v = true) : l' = l := by
 apply List.ext_getElem?
 intro k
 cases hk : l[k]? with
 | none => exact h.get_none hk
 | some x =>
  obtain ⟨x', hx', hr⟩ := h.get hk
  rw [hx', hr.of_flat (hf x (List.mem_of_getElem? hk))]

theorem convK_sound (h : Rel P w0 ρ σ w) {src dst : TypeId} {x x' : Value} {K : VK} (hk : convK P src dst x σ K = true) (hx : VR ρ x x') :
 ∃ ρ' v σ' v' w', K v σ' = true ∧ (convert src dst x').run P w = .ok v' w' ∧ VR ρ' v v' ∧ Rel P w0 ρ' σ' w' ∧ Stp ρ w ρ' w' := by
 unfold convK at hk
 split at hk
 · rename_i kd n
   cases hx.of_flat rfl
   split at hk
   · rename_i d k hs hd
     unfold intK at hk
     rw [forceI_eq, wrapI_eq] at hk
     refine ⟨ρ, _, σ, _, w, hk, ?_, .flat rfl, h, .refl ρ w⟩
     simp [convert, run_underlying hs, run_underlying hd, Conv.intToInt]
   · cases hk
 · rename_i s
   cases hx.of_flat rfl
   split at hk
   · rename_i hs hd
     refine ⟨ρ, _, σ, _, w, hk, ?_, .flat rfl, h, .refl ρ w⟩
     simp [convert, run_underlying hs, run_underlying hd]
   · rename_i e hs hd
     split at hk
     · rename_i he h1
       rw [u8sK_eq, lenK_eq, newK_eq] at hk
       have hcap := grownCap_ge w s.size 0 e
       generalize hcc : grownCap w s.size 0 e = cc at hcap
       let bs : List Value := s.data.toList.map (fun b : UInt8 => Value.int .u8 (b.toNat : Int))
       let zs : List Value := List.replicate (cc - s.size) (.int .u8 0)
       have hbl : bs.length = s.size := by show (List.map _ _).length = _; rw [List.length_map]; rfl
       have hzl : zs.length = cc - s.size := List.length_replicate
       have hrow : bytesRow s cc = ⟨bs ++ zs⟩ := by apply Array.toList_inj.1; simp [bytesRow, bs, zs]
       have hsz : (bytesRow s cc).size = cc := by rw [hrow]; show (bs ++ zs).length = _; rw [List.length_append]; omega
       have hfl : VRs ρ bs bs := .flat (by simp [bs, flat0])
       obtain ⟨r1, r2⟩ := h.drew.newGrown (more := zs) hfl e h1 ((bytesRow s cc).size, (bytesRow s cc).size + 1) (by intro x hx; rw [List.length_append] at hx; omega) [] (by simp)
       have hrun := run_bytes_of_string w src dst e s hs hd he
       rw [hcc, hrow] at hrun
       rw [hrow] at r1 r2
       refine ⟨_, _, _, _, _, hk, hrun, ?_, r1, (Stp.drew ρ w).trans r2⟩
       have hL := Rn.put_same ρ σ.n ⟨w.drew.heap.size, 0, (bs ++ zs).length, 1⟩
       have := VR.sliceIn (o := 0) (n := s.size) (c := s.size) (c' := cc) hL hcap (Nat.le_refl _) (by simp only [List.length_append]; omega) Nat.one_pos
       rw [List.length_map]
       exact this
     · cases hk
   · cases hk
 · rename_i n c
   cases hx.of_flat rfl
   split at hk
   · rename_i e hs hd
     split at hk
     · rename_i he
       exact ⟨ρ, _, σ, _, w, hk, run_convert_bytes_nil w src e hs he _ _ dst hd, .flat rfl, h, .refl ρ w⟩
     · cases hk
   · cases hk
 · rename_i i o sp len c
   split at hk
   · cases hk
   · rename_i e hs hd hsp
     split at hk
     · rename_i he
       rcases hx.slice_inv with ⟨L, c', hL, rfl, _⟩ | ⟨⟨s1, h1⟩, rfl, rfl, _⟩
       · obtain ⟨vs, e', ck, ho, hle, hk⟩ := readK_true hk
         obtain ⟨l', hl', hlen, hc⟩ := h.readCells ho hL hle
         obtain ⟨ns, hk, hns⟩ := bytesK_true hk
         rw [hns] at hl'
         have hl'' : l' = ns.map (fun n => .int .u8 (.ofNat n)) := hl'.flat_eq (by simp [flat0])
         refine ⟨ρ, _, σ, _, w, hk, ?_, .flat rfl, h, .refl ρ w⟩
         rw [run_convert_bytes_string w src dst e _ _ _ hs he hd]
         have hld := run_loadCells (P := P) ⟨L.b, L.s + o, none⟩ l' hlen hc
         rw [hl''] at hld
         have e1 : (⟨ns.map (fun n => Value.int .u8 (.ofNat n))⟩ : Array Value) = ((ns.map Int.ofNat).map (Value.int .u8)).toArray := by simp [List.map_map, Function.comp_def]
         rw [e1] at hld
         rw [run_bytesToString w _ _ _ _ hld]
         congr 2
         have hf : ∀ (l : List Nat) (r : ByteArray), (l.map Int.ofNat).foldl (fun r (n : Int) => r.push (UInt8.ofNat n.toNat)) r = ⟨r.data ++ (l.map UInt8.ofNat).toArray⟩ := by
          intro l
          induction l with
          | nil => intro r; simp
          | cons b l ih => intro r; simp only [List.map_cons, List.foldl_cons, ih]; simp [ByteArray.push]
         rw [hf]
         have he0 : ByteArray.empty.data = #[] := rfl
         rw [he0]
         simp
       · subst h1; exact absurd rfl (hsp _)
     · cases hk
   · cases hk
 · cases hk
end conv
end Go.Am

namespace Go.Am
open Go.RowKit Go.MapKept
section maps
variable {P : Program} {w0 : World} {ρ : Rn} {σ : St} {w : World}

theorem Rel.put1 (h : Rel P w0 ρ σ w) {i : Nat} {o o' : AObj} (ho : σ.obj i = some o) (hd : o.isDead = false) (hr : o.reads = false) (hol : o.olds = []) {L : Loc} (hL : ρ i = some L) (hb : w0.heap.size ≤ L.b)
 (hol' : o'.olds = []) (ob : Obj) (hobj : (w.putObj L.b ob).heap[L.b]? = some ob → ObjRel P w0 ρ (w.putObj L.b ob) i o') : Rel P w0 ρ (σ.set i o') (w.putObj L.b ob) ∧ Stp ρ w ρ (w.putObj L.b ob) := by
 have hlt := h.loc i L hL
 have hobj := hobj (World.putObj_heap_same hlt)
 have hne : ∀ j x, j ≠ i → σ.obj j = some x → x.isDead = false → ∀ M, ρ j = some M → M.b ≠ L.b := by
  intro j x hji hx hxd M hM e
  rcases h.sep i j o x L M (Ne.symm hji) ho hx hd hxd hL hM e.symm with ⟨h1, _⟩ | h1 | h1
  · rw [hr] at h1; cases h1
  · rw [hol] at h1; cases h1
  · cases x with
    | cells vs t k =>
     cases k with
     | grown olds =>
      obtain ⟨_, h2⟩ := h.old j vs t olds hx i h1
      rcases h2 o ho with h3 | ⟨ws, t', h3, _⟩
      · rw [h3] at hd; cases hd
      · rw [h3] at hr; cases hr
     | _ => cases h1
    | _ => cases h1
 have hcase : ∀ j x, (σ.set i o').obj j = some x → (j = i ∧ x = o') ∨ (j ≠ i ∧ σ.obj j = some x) := fun j x hx => by
  rw [obj_set] at hx
  by_cases e : j = i
  · rw [if_pos e] at hx; injection hx with hx; exact .inl ⟨e, hx.symm⟩
  · rw [if_neg e] at hx; exact .inr ⟨e, hx⟩
 refine h.upd (σ' := σ.set i o') hb ⟨i, L, hL, rfl⟩ rfl (putObj_size _ _) (fun c hc => putObj_other hc) rfl rfl rfl (fun j x hx => ?_) (fun a b x y M N hab hx hy hxd hyd hM hN hMN => ?_) (fun j vs e olds hj q hq => ?_)
 · rcases hcase j x hx with ⟨rfl, rfl⟩ | ⟨e, hx⟩
   · exact .inr (.inr ⟨h.lt j o ho, hobj⟩)
   · cases hxd : x.isDead with
     | true => exact .inl ⟨rfl, h.lt j x hx⟩
     | false => exact .inr (.inl ⟨hx, hne j x e hx hxd⟩)
 · rcases hcase a x hx with ⟨e1, _⟩ | ⟨ea, hx1⟩ <;> rcases hcase b y hy with ⟨e2, _⟩ | ⟨eb, hy1⟩
   · exact absurd (e1.trans e2.symm) hab
   · rw [e1, hL] at hM; injection hM with hM; subst hM; exact absurd hMN.symm (hne b y eb hy1 hyd N hN)
   · rw [e2, hL] at hN; injection hN with hN; subst hN; exact absurd hMN (hne a x ea hx1 hxd M hM)
   · exact h.sep a b x y M N hab hx1 hy1 hxd hyd hM hN hMN
 · rcases hcase j _ hj with ⟨rfl, e2⟩ | ⟨e, hj⟩
   · rw [← e2] at hol'; simp only [AObj.olds] at hol'; subst hol'; cases hq
   · obtain ⟨h1, h2⟩ := h.old j vs _ olds hj q hq
     refine ⟨h1, fun x hx => ?_⟩
     rcases hcase q x hx with ⟨rfl, rfl⟩ | ⟨e', hx⟩
     · rcases h2 o ho with h3 | ⟨ws, t', h3, _⟩
       · rw [h3] at hd; cases hd
       · rw [h3] at hr; cases hr
     · exact h2 x hx

theorem mapK_true {m : Value} {k : Option Nat → List MapEntry → Nat → Bool} (hk : mapK σ m k = true) :
 (m = .map none ∧ k none [] 0 = true) ∨ ∃ r es c, m = .map (some r) ∧ σ.obj r = some (.map es c) ∧ k (some r) es c = true := by
 unfold mapK at hk
 split at hk
 · exact .inl ⟨rfl, hk⟩
 · rename_i r
   rw [getK_eq] at hk
   cases ho : σ.h.get r with
   | none => rw [ho] at hk; cases hk
   | some o =>
    rw [ho] at hk
    cases o with
    | map es c => exact .inr ⟨r, es, c, rfl, ho, hk⟩
    | _ => cases hk
 · cases hk
theorem VR.map_inv {r : Nat} {v' : Value} (h : VR ρ (.map (some r)) v') : ∃ L, ρ r = some L ∧ v' = .map (some L.b) := by
 cases h with
 | flat h => simp [flat0] at h
 | map h => exact ⟨_, h, rfl⟩
theorem Rel.map (h : Rel P w0 ρ σ w) {r : Nat} {es : List MapEntry} {c : Nat} (ho : σ.obj r = some (.map es c)) {L : Loc} (hL : ρ r = some L) : ∃ es', w0.heap.size ≤ L.b ∧ w.heap[L.b]? = some (.map es' c) ∧ EntsRel ρ es es'.toList := by
 obtain ⟨M, es', h1, h2, h3, h4⟩ := h.objs r _ ho
 rw [hL] at h1; injection h1 with h1; subst h1
 exact ⟨es', h2, h3, h4⟩

/-! ### keys -/
theorem plainT_not_struct {t : TypeId} (h : plainT P t = true) : plainS P t = none := by
 cases hs : plainS P t with
 | none => rfl
 | some fs => obtain ⟨hu, _⟩ := plainS_spec hs; unfold plainT at h; rw [hu] at h; cases h
theorem keyEqK_plain {t : TypeId} (h : plainT P t = true) {a b : Value} {k : Bool → Bool} (hk : keyEqK P t a b k = true) : eqCellK P t a b k = true := by
 unfold keyEqK at hk
 split at hk
 · unfold equalK at hk
   simp only [plainT_not_struct h] at hk
   cases hk
 · exact hk
theorem eqCellK_now {t : TypeId} {kd : TypeDesc} (hu : P.underlying t = some kd) {a b : Value} {k : Bool → Bool} (hk : eqCellK P t a b k = true) : ∃ e, k e = true ∧ Instr.sameNow kd a b = some e := by
 unfold eqCellK at hk
 rw [hu] at hk
 split at hk
 · rename_i q hq
   injection hq with hq; subst hq
   split at hk
   · rename_i j x l y
     split at hk
     · rename_i hj
       have := kindEq_iff hj; subst this
       rw [forceB_eq, eqI_eq] at hk
       exact ⟨_, hk, by simp [Instr.sameNow]⟩
     · cases hk
   · cases hk
 · rename_i hq
   injection hq with hq; subst hq
   split at hk
   · rename_i x y
     rw [forceB_eq, eqL8_eq] at hk
     have e : (x == y) = (x.data.toList == y.data.toList) := by
      rw [Bool.eq_iff_iff, bytes_beq, beq_iff_eq]
      exact ⟨fun h => by rw [h], fun h => ByteArray.ext (Array.toList_inj.1 h)⟩
     exact ⟨_, hk, by rw [← e]; rfl⟩
   · cases hk
 · rename_i hq
   injection hq with hq; subst hq
   split at hk
   · rw [forceB_eq] at hk
     exact ⟨_, hk, rfl⟩
   · cases hk
 · cases hk

noncomputable def findAux (P : Program) (t : TypeId) (key : Value) (k : Option (Nat × MapEntry) → Bool) (es : List MapEntry) : Nat → Bool :=
 lrec (β := Nat → Bool) (fun _ => k none) (fun e _ ih i => keyEqK P t key e.key fun b => match b with | true => k (some (i, e)) | false => forceN (Nat.succ i) ih) es
def FindR (i : Nat) (l l' : List MapEntry) (r : Option (Nat × MapEntry)) (r' : Option (Nat × Value)) : Prop :=
 (r = none ∧ r' = none) ∨ ∃ j e e', r = some (i + j, e) ∧ l[j]? = some e ∧ l'[j]? = some e' ∧ r' = some (i + j, e'.val)
theorem EntsRel.cons_inv {e : MapEntry} {l l' : List MapEntry} (h : EntsRel ρ (e :: l) l') : ∃ e' t', l' = e' :: t' ∧ EntRel ρ e e' ∧ EntsRel ρ l t' := by
 cases l' with
 | nil => have := h.1; simp at this
 | cons e' t' => exact ⟨e', t', rfl, h.2 0 e e' rfl rfl, by simpa using h.1, fun k x y a b => h.2 (k + 1) x y (by simpa using a) (by simpa using b)⟩
theorem FindR.step {i : Nat} {e e' : MapEntry} {l l' : List MapEntry} {r : Option (Nat × MapEntry)} {r' : Option (Nat × Value)} (h : FindR (i + 1) l l' r r') : FindR i (e :: l) (e' :: l') r r' := by
 rcases h with h | ⟨j, x, x', h1, h2, h3, h4⟩
 · exact .inl h
 · exact .inr ⟨j + 1, x, x', by rw [h1]; congr 2; omega, by simpa using h2, by simpa using h3, by rw [h4]; congr 2; omega⟩
theorem findAux_plain {t : TypeId} {kd : TypeDesc} (hp : plainT P t = true) (hu : P.underlying t = some kd) {key : Value} {k : Option (Nat × MapEntry) → Bool} : ∀ (l l' : List MapEntry) (i : Nat), findAux P t key k l i = true → EntsRel ρ l l' →
 ∃ r r', k r = true ∧ Instr.findNow kd key l' i = some r' ∧ FindR i l l' r r' := by
 intro l
 induction l with
 | nil =>
  intro l' i hk hl
  have : l' = [] := List.eq_nil_of_length_eq_zero (by simpa using hl.1.symm)
  subst this
  exact ⟨none, none, hk, rfl, .inl ⟨rfl, rfl⟩⟩
 | cons e l ih =>
  intro l' i hk hl
  obtain ⟨e', t', rfl, he, ht⟩ := hl.cons_inv
  obtain ⟨b, hb, hs⟩ := eqCellK_now hu (keyEqK_plain hp (show keyEqK P t key e.key (fun b => match b with | true => k (some (i, e)) | false => forceN (Nat.succ i) (findAux P t key k l)) = true from hk))
  rw [← he.1] at hs
  cases b with
  | true => exact ⟨_, _, hb, by simp only [Instr.findNow, hs]; rfl, .inr ⟨0, e, e', rfl, rfl, rfl, rfl⟩⟩
  | false =>
   simp only [forceN_eq] at hb
   obtain ⟨r, r', h1, h2, h3⟩ := ih t' (i + 1) hb ht
   exact ⟨r, r', h1, by simp only [Instr.findNow, hs, h2], h3.step⟩
theorem findAux_struct {t : TypeId} {fs : List Field} (hp : plainS P t = some fs) {key : Value} (hkey : flat1 key = true) {xs : Array Value} (hx : key = .agg xs) {k : Option (Nat × MapEntry) → Bool} : ∀ (l l' : List MapEntry) (i : Nat),
 findAux P t key k l i = true → EntsRel ρ l l' → ∃ r r', k r = true ∧ (∀ w, (Instr.findAsking t key l' i).run P w = .ok r' w) ∧ FindR i l l' r r' := by
 intro l
 induction l with
 | nil =>
  intro l' i hk hl
  have : l' = [] := List.eq_nil_of_length_eq_zero (by simpa using hl.1.symm)
  subst this
  exact ⟨none, none, hk, fun w => rfl, .inl ⟨rfl, rfl⟩⟩
 | cons e l ih =>
  intro l' i hk hl
  obtain ⟨e', t', rfl, he, ht⟩ := hl.cons_inv
  have hk : keyEqK P t key e.key (fun b => match b with | true => k (some (i, e)) | false => forceN (Nat.succ i) (findAux P t key k l)) = true := hk
  have hk : equalK P t key e.key (fun b => match b with | true => k (some (i, e)) | false => forceN (Nat.succ i) (findAux P t key k l)) = true := by
   unfold keyEqK at hk
   split at hk
   · exact hk
   · unfold eqCellK at hk
     rw [(plainS_spec hp).1] at hk
     cases hk
  obtain ⟨b, hb, hs, _⟩ := equalK_sound (ρ := ρ) hk (VR.flat1 hkey) (VR.flat1 he.2.1)
  rw [← he.1] at hs
  cases b with
  | true => exact ⟨_, _, hb, fun w => by simp [Instr.findAsking, hs], .inr ⟨0, e, e', rfl, rfl, rfl, rfl⟩⟩
  | false =>
   simp only [forceN_eq] at hb
   obtain ⟨r, r', h1, h2, h3⟩ := ih t' (i + 1) hb ht
   exact ⟨r, r', h1, fun w => by simp [Instr.findAsking, hs, h2], h3.step⟩
theorem keyOk_spec {t : TypeId} {key : Value} (h : keyOk P t key = true) : flat1 key = true ∧ (plainT P t = true ∨ plainT P t = false ∧ ∃ fs cs, plainS P t = some fs ∧ key = .agg cs ∧ fs.length ≤ cs.toList.length) := by
 unfold keyOk at h
 split at h
 · rename_i hf
   refine ⟨hf, ?_⟩
   split at h
   · exact .inl (by assumption)
   · rename_i h1
     split at h
     · rename_i fs cs h2
       exact .inr ⟨h1, fs, cs, h2, rfl, Nat.le_of_ble_eq_true h⟩
     · cases h
 · cases h
theorem findK_sound {t : TypeId} {key : Value} (hkey : keyOk P t key = true) {l l' : List MapEntry} {k : Option (Nat × MapEntry) → Bool} (hk : findK P t key l k = true) (hl : EntsRel ρ l l') :
 ∃ r r', k r = true ∧ (∀ w, (Instr.findKey t key l').run P w = .ok r' w) ∧ FindR 0 l l' r r' := by
 have hk : findAux P t key k l 0 = true := hk
 obtain ⟨hf, hp | ⟨_, fs, cs, hs, hc, _⟩⟩ := keyOk_spec hkey
 · cases hu : P.underlying t with
   | none => unfold plainT at hp; rw [hu] at hp; cases hp
   | some kd =>
    obtain ⟨r, r', h1, h2, h3⟩ := findAux_plain hp hu l l' 0 hk hl
    exact ⟨r, r', h1, fun w => run_findKey hu h2, h3⟩
 · obtain ⟨r, r', h1, h2, h3⟩ := findAux_struct hs hf hc l l' 0 hk hl
   refine ⟨r, r', h1, fun w => ?_, h3⟩
   have hu := (plainS_spec hs).1
   cases l' with
   | nil =>
    have h2 := h2 w
    simp only [Instr.findAsking, Sem.run_pure] at h2
    injection h2 with h2
    rw [← h2]
    exact run_findKey hu rfl
   | cons e l' =>
    simp only [Instr.findKey, Sem.run_bind, run_underlying hu, Result.andThen_ok]
    have : Instr.findNow (.struct (P.fieldsOf t)) key (e :: l') 0 = none := by simp [Instr.findNow, Instr.sameNow]
    rw [this]
    exact h2 w
theorem checkKey_plain {t : TypeId} (hp : plainT P t = true) (em : Bool) (n : Nat) (v : Value) (w : World) : (Instr.checkKey em (n + 1) t v).run P w = .ok () w := by
 unfold plainT at hp
 split at hp <;> first | (cases hp; done) | (rename_i hu; cases v <;> simp [Instr.checkKey, run_underlying hu])
theorem checkFields (em : Bool) (n : Nat) (cs : Array Value) (w : World) : ∀ (fs : List Field) (i : Nat), plainFields P i fs = true → i + fs.length ≤ cs.toList.length →
 (forIn fs PUnit.unit (fun f (_ : PUnit) => do
  if f.name ≠ "_" then Instr.checkKey em (n + 1) f.type (← part f.type cs f.offset)
  pure (ForInStep.yield PUnit.unit) : Field → PUnit → Sem (ForInStep PUnit))).run P w = .ok PUnit.unit w := by
 intro fs
 induction fs with
 | nil => intro i _ _; rfl
 | cons f fs ih =>
  intro i hp hl
  simp only [plainFields, Bool.and_eq_true, beq_iff_eq, bne_iff_ne] at hp
  obtain ⟨⟨⟨hname, hoff⟩, hpl⟩, hrest⟩ := hp
  simp only [List.length_cons] at hl
  have hlt : i < cs.toList.length := by omega
  have hg : cs.toList[i]? = some cs.toList[i] := List.getElem?_eq_getElem hlt
  simp only [List.forIn_cons, Sem.run_bind, hname, ne_eq, not_false_eq_true, if_true, hoff, part_run hpl hg, Result.andThen_ok, checkKey_plain hpl, Sem.run_pure]
  exact ih (i + 1) hrest (by omega)
theorem checkKey_sound {t : TypeId} {key : Value} (hkey : keyOk P t key = true) (em : Bool) (w : World) : (Instr.checkKey em 10000 t key).run P w = .ok () w := by
 obtain ⟨hf, hp | ⟨_, fs, cs, hs, rfl, hlen⟩⟩ := keyOk_spec hkey
 · exact checkKey_plain hp em 9999 key w
 · obtain ⟨hu, h2, h3, _, _⟩ := plainS_spec hs
   show (Instr.checkKey em (9999 + 1) t (.agg cs)).run P w = _
   unfold Instr.checkKey
   simp only [Sem.run_bind, run_underlying hu, Result.andThen_ok]
   have := checkFields (P := P) em 9998 cs w fs 0 h3 (by omega)
   rw [← h2, Array.forIn_toList] at this
   rw [this]
   rfl
end maps
end Go.Am

namespace Go.Am
open Go.RowKit Go.MapKept
section maps
variable {P : Program} {w0 : World} {ρ : Rn} {σ : St} {w : World}

theorem sameBits_flat0 {n : Nat} {a b : Value} (ha : flat0 a = true) (hb : flat0 b = true) (h : Instr.sameBits n a b = true) : a = b := by
 cases a <;> first | (simp [flat0] at ha; done) | skip
 all_goals (cases b <;> first | (simp [flat0] at hb; done) | (simp [Instr.sameBits] at h; done) | skip)
 all_goals first
  | rfl
  | (simp [Instr.sameBits] at h; simp [h]; done)
  | (rw [Instr.sameBits, bytes_beq] at h; rw [h]; done)
  | (rename_i x y; cases x <;> cases y <;> first | rfl | (simp [flat0] at ha; done) | (simp [flat0] at hb; done))
theorem sameBits_flat1 {n : Nat} {a b : Value} (ha : flat1 a = true) (hb : flat1 b = true) (h : Instr.sameBits (n + 1) a b = true) : a = b := by
 by_cases hA : ∃ x, a = .agg x
 · obtain ⟨x, rfl⟩ := hA
   cases b with
   | agg y =>
    simp only [Instr.sameBits, Bool.and_eq_true, beq_iff_eq] at h
    obtain ⟨hs, h⟩ := h
    have ha : ∀ v ∈ x.toList, flat0 v = true := List.all_eq_true.1 ha
    have hb : ∀ v ∈ y.toList, flat0 v = true := List.all_eq_true.1 hb
    have hs : x.toList.length = y.toList.length := hs
    have h : ∀ (l m : List Value), l.length = m.length → (∀ v ∈ l, flat0 v = true) → (∀ v ∈ m, flat0 v = true) → ((l.zip m).all fun (a, b) => Instr.sameBits n a b) = true → l = m := by
     intro l
     induction l with
     | nil => intro m hm _ _ _; exact (List.eq_nil_of_length_eq_zero (by simpa using hm.symm)).symm
     | cons a l ih =>
      intro m hm h1 h2 h3
      cases m with
      | nil => simp at hm
      | cons b m =>
       simp only [List.zip_cons_cons, List.all_cons, Bool.and_eq_true] at h3
       rw [sameBits_flat0 (h1 a (.head _)) (h2 b (.head _)) h3.1, ih m (by simpa using hm) (fun v hv => h1 v (.tail _ hv)) (fun v hv => h2 v (.tail _ hv)) h3.2]
    rw [Array.toList_inj.1 (h _ _ hs ha hb (by assumption))]
   | _ => simp [Instr.sameBits] at h
 · have fa : flat0 a = true := by cases a <;> first | exact ha | exact absurd ⟨_, rfl⟩ hA
   by_cases hB : ∃ x, b = .agg x
   · obtain ⟨x, rfl⟩ := hB
     cases a <;> first | (simp [Instr.sameBits] at h; done) | exact absurd ⟨_, rfl⟩ hA
   · have fb : flat0 b = true := by cases b <;> first | exact hb | exact absurd ⟨_, rfl⟩ hB
     exact sameBits_flat0 fa fb h

theorem EntsRel.setmod {l l' : List MapEntry} (h : EntsRel ρ l l') {i : Nat} {e e' x : MapEntry} (hi : l[i]? = some e) (hi' : l'[i]? = some e') (f : MapEntry → MapEntry) (hx : EntRel ρ x (f e')) : EntsRel ρ (l.set i x) (l'.modify i f) := by
 refine ⟨by simp [h.1], fun k a b ha hb => ?_⟩
 rw [List.getElem?_set] at ha
 rw [List.getElem?_modify] at hb
 by_cases hk : i = k
 · subst hk
   have := (List.getElem?_eq_some_iff.1 hi).1
   rw [if_pos rfl, if_pos this] at ha
   rw [hi'] at hb
   simp at ha hb
   subst ha hb
   exact hx
 · rw [if_neg hk] at ha
   cases hl : l'[k]? with
   | none => rw [hl] at hb; cases hb
   | some y => rw [hl] at hb; simp [hk] at hb; subst hb; exact h.2 k a y ha hl
theorem EntsRel.modR {l l' : List MapEntry} (h : EntsRel ρ l l') {i : Nat} {e e' : MapEntry} (hi : l[i]? = some e) (hi' : l'[i]? = some e') (f : MapEntry → MapEntry) (hx : EntRel ρ e (f e')) : EntsRel ρ l (l'.modify i f) := by
 have := h.setmod hi hi' f hx
 have e1 : l.set i e = l := by
  apply List.ext_getElem?
  intro k
  rw [List.getElem?_set]
  split
  · rename_i hk; subst hk; split
    · exact hi.symm
    · rename_i hl; exact absurd (List.getElem?_eq_some_iff.1 hi).1 hl
  · rfl
 rwa [e1] at this
theorem EntsRel.push {l l' : List MapEntry} (h : EntsRel ρ l l') {e e' : MapEntry} (he : EntRel ρ e e') : EntsRel ρ (l ++ [e]) (l' ++ [e']) := by
 refine ⟨by simp [h.1], fun k a b ha hb => ?_⟩
 by_cases hk : k < l.length
 · rw [List.getElem?_append_left hk] at ha
   rw [List.getElem?_append_left (by rw [← h.1]; exact hk)] at hb
   exact h.2 k a b ha hb
 · rw [List.getElem?_append_right (by omega)] at ha
   rw [List.getElem?_append_right (by rw [← h.1]; omega), ← h.1] at hb
   have : k - l.length = 0 := by
    have := (List.getElem?_eq_some_iff.1 ha).1
    simpa using this
   rw [this] at ha hb
   simp at ha hb
   subst ha hb
   exact he
theorem EntsRel.erase {l l' : List MapEntry} (h : EntsRel ρ l l') (i : Nat) : EntsRel ρ (l.eraseIdx i) (l'.eraseIdx i) := by
 refine ⟨by simp [List.length_eraseIdx, h.1], fun k a b ha hb => ?_⟩
 rw [List.getElem?_eraseIdx] at ha hb
 split at ha
 · rename_i hk; rw [if_pos hk] at hb; exact h.2 k a b ha hb
 · rename_i hk; rw [if_neg hk] at hb; exact h.2 _ a b ha hb
theorem mapT_spec {t kt et : TypeId} (h : mapT P t = some (kt, et)) : P.underlying t = some (.map kt et) := by
 unfold mapT at h
 split at h
 · rename_i hu; injection h with h; injection h with h1 h2; subst h1 h2; exact hu
 · cases h
theorem zeroV_run {t : TypeId} {z : Value} (h : zeroV P t = some z) (w : World) : (zeroValue t).run P w = .ok z w := by
 unfold zeroV at h
 cases hi : P.info? t with
 | none => rw [hi] at h; cases h
 | some i => rw [hi] at h; simp [zeroValue, info_run hi, show i.zero = some z from h]
theorem VR.key {kt : TypeId} {key key' : Value} (h : VR ρ key key') (hk : keyOk P kt key = true) : key' = key := h.flat1_eq (keyOk_spec hk).1

theorem lookupK_sound (h : Rel P w0 ρ σ w) {t : TypeId} {x x' ix ix' : Value} {ok : Bool} {K : VK} (hk : lookupK P t x ix ok σ K = true) (hx : VR ρ x x') (hi : VR ρ ix ix') :
 ∃ v v', K v σ = true ∧ VR ρ v v' ∧ (Instr.lookup t x' ix' ok).run P w = .ok v' w := by
 unfold lookupK at hk
 split at hk
 · rename_i kt et hm
   have hu := mapT_spec hm
   split at hk
   · rename_i zero hkey hz
     rw [hi.key hkey]
     have main : ∀ (es : List MapEntry) (es' : Array MapEntry), EntsRel ρ es es'.toList → findK P kt ix es (fun r => match r with
      | some (_, e) => match (generalizing := false) ok with | true => K (.tuple ⟨[e.val, .bool true]⟩) σ | false => K e.val σ
      | none => match flat1 zero with
       | true => match (generalizing := false) ok with | true => K (.tuple ⟨[zero, .bool false]⟩) σ | false => K zero σ
       | false => false) = true →
      ∃ v v', K v σ = true ∧ VR ρ v v' ∧ (do
       Instr.checkKey es'.isEmpty 10000 kt ix
       let (v, o) ← match ← Instr.findKey kt ix es'.toList with
        | some (_, v) => pure (v, true)
        | none => pure (← zeroValue et, false)
       pure (if ok then .tuple #[v, .bool o] else v) : Sem Value).run P w = .ok v' w := by
      intro es es' hes hk
      obtain ⟨r, r', hk, hrun, hr⟩ := findK_sound hkey hk hes
      rcases hr with ⟨rfl, rfl⟩ | ⟨j, e, e', rfl, h1, h2, rfl⟩
      · simp only at hk
        split at hk
        · rename_i hfz
          have hzr : VR ρ zero zero := VR.flat1 hfz
          cases ok with
          | true => exact ⟨_, _, hk, .mk_tuple (.cons hzr (.cons (.flat rfl) (.nil ρ))), by simp [checkKey_sound hkey, hrun, zeroV_run hz]⟩
          | false => exact ⟨_, _, hk, hzr, by simp [checkKey_sound hkey, hrun, zeroV_run hz]⟩
        · cases hk
      · have hv := (hes.2 j e e' h1 h2).2.2.2
        cases ok with
        | true => exact ⟨_, _, hk, .mk_tuple (.cons hv (.cons (.flat rfl) (.nil ρ))), by simp [checkKey_sound hkey, hrun]⟩
        | false => exact ⟨_, _, hk, hv, by simp [checkKey_sound hkey, hrun]⟩
     rcases mapK_true hk with ⟨rfl, hk2⟩ | ⟨r, es, c, rfl, ho, hk2⟩
     · cases hx.of_flat rfl
       obtain ⟨v, v', h1, h2, h3⟩ := main [] #[] ⟨rfl, by simp⟩ hk2
       refine ⟨v, v', h1, h2, ?_⟩
       rw [← h3]
       simp [Instr.lookup, run_underlying hu]
       rfl
     · obtain ⟨L, hL, rfl⟩ := hx.map_inv
       obtain ⟨es', _, hb, hes⟩ := h.map ho hL
       obtain ⟨v, v', h1, h2, h3⟩ := main es es' hes hk2
       refine ⟨v, v', h1, h2, ?_⟩
       rw [← h3]
       simp [Instr.lookup, run_underlying hu, MapKept.run_getObj_map hb]
       rfl
   · cases hk
 · cases hk

theorem Rel.setMap (h : Rel P w0 ρ σ w) {r : Nat} {es : List MapEntry} {c : Nat} (ho : σ.obj r = some (.map es c)) {L : Loc} (hL : ρ r = some L) {o : Obj} (hb : w.heap[L.b]? = some o) (hbase : w0.heap.size ≤ L.b) {es2 : List MapEntry} {es2' : Array MapEntry} {c2 : Nat} (he : EntsRel ρ es2 es2'.toList)
 (hob : ∃ es' c', o = .map es' c') : ∃ w', (setObj L.b (.map es2' c2)).run P w = .ok () w' ∧ Rel P w0 ρ (σ.set r (.map es2 c2)) w' ∧ Stp ρ w ρ w' := by
 obtain ⟨es', c', rfl⟩ := hob
 obtain ⟨r1, r2⟩ := h.put1 (o' := .map es2 c2) ho rfl rfl rfl hL hbase rfl (.map es2' c2) (fun hh => ⟨L, es2', hL, hbase, hh, he⟩)
 exact ⟨_, MapKept.run_setObj_map _ hb, r1, r2⟩

theorem key_stays {a b : Value} (h : Instr.sameBits 10000 a b = true) (w : World) : (Instr.keyThatStays a b).run P w = .ok b w := by simp [Instr.keyThatStays, h]

theorem mapUpdateK_sound (h : Rel P w0 ρ σ w) {t : TypeId} {m m' key key' x x' : Value} {k : St → Bool} (hk : mapUpdateK P t m key x σ k = true) (hm : VR ρ m m') (hkey' : VR ρ key key') (hx : VR ρ x x') :
 ∃ σ' w', k σ' = true ∧ Rel P w0 ρ σ' w' ∧ Stp ρ w ρ w' ∧ (Instr.mapUpdate t m' key' x').run P w = .ok () w' := by
 unfold mapUpdateK at hk
 split at hk
 · rename_i kt et hmt
   have hu := mapT_spec hmt
   split at hk
   · rename_i hkey
     rw [hkey'.key hkey]
     rcases mapK_true hk with ⟨rfl, hk2⟩ | ⟨r, es, c, rfl, ho, hk2⟩
     · cases hk2
     · obtain ⟨L, hL, rfl⟩ := hm.map_inv
       obtain ⟨es', hbase, hb, hes⟩ := h.map ho hL
       have hk := hk2
       simp only at hk
       obtain ⟨q, q', hk, hrun, hr⟩ := findK_sound hkey hk hes
       rcases hr with ⟨rfl, rfl⟩ | ⟨j, e, e', rfl, h1, h2, rfl⟩
       · simp only [appK_eq, forceN_eq, setK_eq] at hk
         obtain ⟨w', hw, r1, r2⟩ := h.setMap (P := P) ho hL hb hbase (es2 := es ++ [{ key := key, val := x, born := c }]) (es2' := es'.push { key := key, val := x', born := c }) (c2 := c + 1)
          (by rw [Array.toList_push]; exact hes.push ⟨rfl, (keyOk_spec hkey).1, rfl, hx⟩) ⟨_, _, rfl⟩
         exact ⟨_, w', hk, r1, r2, by simp [Instr.mapUpdate, run_underlying hu, MapKept.run_getObj_map hb, checkKey_sound hkey, hrun, hw]⟩
       · simp only [Nat.zero_add] at hk
         split at hk
         · rename_i hsb
           rw [setNK_eq, setK_eq] at hk
           have hrel := hes.2 j e e' h1 h2
           have hee : e.key = key := sameBits_flat1 hrel.2.1 (keyOk_spec hkey).1 hsb
           obtain ⟨w', hw, r1, r2⟩ := h.setMap (P := P) ho hL hb hbase (es2 := es.set j { e with val := x }) (es2' := es'.modify j fun e => { e with key := key, val := x' }) (c2 := c)
            (by rw [Array.toList_modify]; exact hes.setmod h1 h2 _ ⟨hee.symm, hrel.2.1, hrel.2.2.1, hx⟩) ⟨_, _, rfl⟩
           refine ⟨_, w', hk, r1, r2, ?_⟩
           have h2' : es'[j]? = some e' := by simpa using h2
           have : Instr.sameBits 10000 e'.key key = true := by rw [hrel.1]; exact hsb
           simp [Instr.mapUpdate, run_underlying hu, MapKept.run_getObj_map hb, checkKey_sound hkey, hrun, h2', key_stays this, hw]
         · cases hk
   · cases hk
 · cases hk

theorem Rel.same (h : Rel P w0 ρ σ w) {τ : St} (ho : ∀ j, σ.obj j = τ.obj j) (hn : σ.n = τ.n) : Rel P w0 ρ τ w :=
 ⟨h.glob, fun i o hi => h.objs i o ((ho i).trans hi), fun i hi => h.dom i (by omega), fun i o hi => by rw [← hn]; exact h.lt i o ((ho i).trans hi), h.loc,
  fun i j a b L M hij ha hb => h.sep i j a b L M hij ((ho i).trans ha) ((ho j).trans hb),
  fun j vs e olds hj i hi => by rw [← hn]; obtain ⟨h1, h2⟩ := h.old j vs e olds ((ho j).trans hj) i hi; exact ⟨h1, fun o hx => h2 o ((ho i).trans hx)⟩, h.base⟩

theorem mapEntryK_sound (h : Rel P w0 ρ σ w) {t : TypeId} {m m' key key' : Value} {K : VK} (hk : mapEntryK P t m key σ K = true) (hm : VR ρ m m') (hkey' : VR ρ key key') :
 ∃ v σ' v' w', K v σ' = true ∧ VR ρ v v' ∧ Rel P w0 ρ σ' w' ∧ Stp ρ w ρ w' ∧ (Instr.mapEntry t m' key').run P w = .ok v' w' := by
 unfold mapEntryK at hk
 split at hk
 · rename_i kt et hmt
   have hu := mapT_spec hmt
   split at hk
   · rename_i zero hkey hz
     rw [hkey'.key hkey]
     rcases mapK_true hk with ⟨rfl, hk2⟩ | ⟨r, es, c, rfl, ho, hk2⟩
     · cases hk2
     · obtain ⟨L, hL, rfl⟩ := hm.map_inv
       obtain ⟨es', hbase, hb, hes⟩ := h.map ho hL
       have hk := hk2
       simp only at hk
       obtain ⟨q, q', hk, hrun, hr⟩ := findK_sound hkey hk hes
       rcases hr with ⟨rfl, rfl⟩ | ⟨j, e, e', rfl, h1, h2, rfl⟩
       · simp only at hk
         split at hk
         · rename_i hfz
           simp only [appK_eq, forceN_eq, setK_eq] at hk
           obtain ⟨w', hw, r1, r2⟩ := h.setMap (P := P) ho hL hb hbase (es2 := es ++ [{ key := key, val := zero, born := c }]) (es2' := es'.push { key := key, val := zero, born := c }) (c2 := c + 1)
            (by rw [Array.toList_push]; exact hes.push ⟨rfl, (keyOk_spec hkey).1, rfl, VR.flat1 hfz⟩) ⟨_, _, rfl⟩
           exact ⟨_, _, _, w', hk, .mk_tuple (.cons (VR.flat1 hfz) (.cons (.flat rfl) (.nil ρ))), r1, r2, by simp [Instr.mapEntry, run_underlying hu, MapKept.run_getObj_map hb, checkKey_sound hkey, hrun, zeroV_run hz, hw]; rfl⟩
         · cases hk
       · dsimp only at hk
         split at hk
         · rename_i hsb
           have hrel := hes.2 j e e' h1 h2
           have hee : e.key = key := sameBits_flat1 hrel.2.1 (keyOk_spec hkey).1 hsb
           obtain ⟨w', hw, r1, r2⟩ := h.setMap (P := P) ho hL hb hbase (es2 := es) (es2' := es'.modify j fun e => { e with key := key }) (c2 := c)
            (by rw [Array.toList_modify]; exact hes.modR h1 h2 _ ⟨hee.symm, hrel.2.1, hrel.2.2.1, hrel.2.2.2⟩) ⟨_, _, rfl⟩
           have hset : σ.set r (.map es c) = σ.set r (.map es c) := rfl
           refine ⟨_, σ, _, w', hk, .mk_tuple (.cons hrel.2.2.2 (.cons (.flat rfl) (.nil ρ))), ?_, r2, ?_⟩
           · exact r1.same (fun j => by
              rw [obj_set]
              split
              · rename_i e; subst e; exact ho.symm
              · rfl) rfl
           · have h2' : es'[j]? = some e' := by simpa using h2
             have : Instr.sameBits 10000 e'.key key = true := by rw [hrel.1]; exact hsb
             simp [Instr.mapEntry, run_underlying hu, MapKept.run_getObj_map hb, checkKey_sound hkey, hrun, h2', key_stays this, hw, goInt, hrel.2.2.1]
         · cases hk
   · cases hk
 · cases hk
end maps
end Go.Am
