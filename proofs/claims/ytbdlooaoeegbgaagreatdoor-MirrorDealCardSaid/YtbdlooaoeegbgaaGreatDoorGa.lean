/- AM, an abstract machine for the model's code: its state, its operations, its evaluator: plain definitions, no theorem about any program. -/
import Derived.OrdersIn
import Derived.RangeFuncIn
import Derived.RangeFuncLeaves
import Derived.Below
import GoSem.Dispatch
import Derived.RangeFuncRecord
import Derived.Laws.StructEq
import Derived.Laws.MakeOwn
import Derived.MapKept
import Derived.Laws.IdiomStrings
import Derived.Laws.BytesArg
import Derived.Maps.RangeRun
import Derived.Laws.AppendOwn

namespace Go.Am
abbrev zI:Value:= .int .i64 (.ofNat 0)
abbrev zS:Value:= .string ⟨⟨[]⟩⟩
abbrev zL:Value:= .slice none 0 0
abbrev zF:Value:= .bool false
inductive Tr (α:Type)where
 | leaf
 | node (v:Option α) (l r:Tr α)
namespace Tr
variable{α:Type}
def get:Tr α->Nat->Option α
 | leaf,_=>none
 | node v l r,n=>if n=0 then v else if n%2=1 then l.get (n / 2)else r.get (n / 2-1)
def yC (x:α):Nat->Tr α->Nat->Tr α
 | 0,t,_=>t
 | f+1,leaf,n=>if n=0 then node (some x) leaf leaf else if n%2=1 then node none (yC x f leaf (n / 2)) leaf else node none leaf (yC x f leaf (n / 2-1))
 | f+1,node v l r,n=>if n=0 then node (some x) l r else if n%2=1 then node v (yC x f l (n / 2)) r else node v l (yC x f r (n / 2-1))
def put (t:Tr α) (n:Nat) (x:α):Tr α:=yC x (n+1) t n
end Tr
section comb
variable{α:Type}{β:Type}
noncomputable def kK (n:Nat) (z:β) (s:Nat->β):β:=Nat.rec (motive:=fun _=>β) z (fun p _=>s p) n
noncomputable def dN (b:Bool) (t f:β):β:=Bool.rec (motive:=fun _=>β) f t b
noncomputable def aFe (o:Option α) (z:β) (s:α->β):β:=Option.rec (motive:=fun _=>β) z s o
noncomputable def aCQ (n:Int) (z:Nat->β) (s:Nat->β):β:=Int.rec (motive:=fun _=>β) z s n
noncomputable def TD (l:List α) (z:β) (s:α->List α->β):β:=List.rec (motive:=fun _=>β) z (fun a t _=>s a t) l
noncomputable def AJ (z:β) (s:Nat->β->β) (n:Nat):β:=Nat.rec (motive:=fun _=>β) z s n
noncomputable def eH (z:β) (s:α->List α->β->β) (l:List α):β:=List.rec (motive:=fun _=>β) z s l
noncomputable def aFf (z:β) (s:Option α->Tr α->Tr α->β->β->β) (t:Tr α):β:=Tr.rec (motive:=fun _=>β) z s t
noncomputable def tcase (t:Tr α) (z:β) (s:Option α->Tr α->Tr α->β):β:=Tr.rec (motive:=fun _=>β) z (fun v l r _ _=>s v l r) t
noncomputable def aFg (skip:β) (region:Array Oper->Bool->β) (seq:β->β->β) (cond:Operand->β->β->β) (block:Nat->β->β) (loop scope:β->β)
 (range:Operand->Array Tmp->Code->Code->β) (exit:Nat->β) (label ret bad:β) (c:Code):β:=
 Code.rec (motive:=fun _=>β) skip (fun _ ops draw=>region ops draw) (fun _ _ a b=>seq a b) (fun c _ _ a b=>cond c a b) (fun id _ h=>block id h) (fun _ h=>loop h)
  (fun f ps a b _ _=>range f ps a b) exit (fun _ h=>scope h) (fun _=>label) (fun _=>bad) ret (fun _=>bad) c
end comb
noncomputable def nY{α:Type} (t:Tr α) (n:Nat) (k:α->Bool):Bool:=
 aFf (β:=Nat->Bool) (fun _=>false) (fun v _ _ gl gr n=>kK n (aFe v false k) fun p=>kK (Nat.mod p 2) (gl (Nat.div p 2)) fun _=>gr (Nat.div p 2)) t n
noncomputable def IX{α:Type} (x:α) (f:Nat):Tr α->Nat->(Tr α->Bool)->Bool:=
 AJ (β:=Tr α->Nat->(Tr α->Bool)->Bool) (fun t _ k=>k t)
  (fun _ ih t n k=>tcase t
   (kK n (k (.node (some x) .leaf .leaf)) fun p=>kK (Nat.mod p 2) (ih .leaf (Nat.div p 2) fun c=>k (.node none c .leaf)) fun _=>ih .leaf (Nat.div p 2) fun c=>k (.node none .leaf c))
   (fun v l r=>kK n (k (.node (some x) l r)) fun p=>kK (Nat.mod p 2) (ih l (Nat.div p 2) fun c=>k (.node v c r)) fun _=>ih r (Nat.div p 2) fun c=>k (.node v l c))) f
noncomputable def bA (n:Nat) (k:Nat->Bool):Bool:=kK n (k 0) fun p=>k (Nat.succ p)
noncomputable def tY (n:Int) (k:Int->Bool):Bool:=aCQ n (fun m=>bA m fun m=>k (.ofNat m)) (fun m=>bA m fun m=>k (.negSucc m))
noncomputable def KJ (b:Bool) (k:Bool->Bool):Bool:=dN b (k true) (k false)
noncomputable def IY{α:Type} (l:List α) (i:Nat) (k:α->Bool):Bool:=
 eH (β:=Nat->Bool) (fun _=>false) (fun a _ ih i=>kK i (k a) fun p=>ih p) l i
noncomputable def Nb{α:Type} (v:α) (l:List α) (i:Nat) (k:List α->Bool):Bool:=
 eH (β:=Nat->(List α->Bool)->Bool) (fun _ k=>k []) (fun a t ih i k=>kK i (k (v::t)) fun p=>ih p fun t'=>k (a::t')) l i k
noncomputable def aA4{α:Type} (l:List α) (k:List α->Bool):Bool:=
 eH (β:=(List α->Bool)->Bool) (fun k=>k []) (fun a _ ih k=>ih fun t=>k (a::t)) l k
noncomputable def wP{α:Type} (l m:List α) (k:List α->Bool):Bool:=
 eH (β:=(List α->Bool)->Bool) (fun k=>k m) (fun a _ ih k=>ih fun t=>k (a::t)) l k
noncomputable def FU{α:Type} (n:Nat) (l:List α) (k:List α->Bool):Bool:=
 AJ (β:=List α->(List α->Bool)->Bool) (fun _ k=>k []) (fun _ ih l k=>TD l false fun a t=>ih t fun t'=>k (a::t')) n l k
noncomputable def AQ{α:Type} (n:Nat) (l:List α) (k:List α->Bool):Bool:=
 AJ (β:=List α->Bool) (fun l=>k l) (fun _ ih l=>TD l false fun _ t=>ih t) n l
noncomputable def Ej{α:Type} (new:List α) (l:List α) (k:List α->Bool):Bool:=
 eH (β:=List α->(List α->Bool)->Bool) (fun l k=>k l) (fun a _ ih l k=>TD l false fun _ t=>ih t fun t'=>k (a::t')) new l k
noncomputable def mM{α:Type} (off:Nat) (new l:List α) (k:List α->Bool):Bool:=
 AJ (β:=List α->(List α->Bool)->Bool) (fun l k=>Ej new l k) (fun _ ih l k=>TD l false fun a t=>ih t fun t'=>k (a::t')) off l k
noncomputable def yT{α:Type} (l:List α) (k:Nat->Bool):Bool:=
 eH (β:=Nat->Bool) (fun n=>k n) (fun _ _ ih n=>bA (Nat.succ n) ih) l 0
noncomputable def Ek{α:Type} (z:List α) (n:Nat) (k:List α->Bool):Bool:=
 AJ (β:=List α->Bool) (fun acc=>k acc) (fun _ ih acc=>wP z acc ih) n []
inductive CK where
 | exact
 | grown (olds:List Nat)
 | stale
 | ro
 | rs
structure Tm where
 t:Tr Value
 n:Nat
noncomputable def IA (T:Tm) (i:Nat) (k:Value->Bool):Bool:=nY T.t i k
noncomputable def nQ (v:Value) (T:Tm) (i:Nat) (k:Tm->Bool):Bool:=
 match Nat.blt i T.n with
 | true=>IX v (Nat.succ i) T.t i fun t=>k ⟨t,T.n⟩
 | false=>false
noncomputable def Nc (n:Nat) (args:List Value) (k:Tm->Bool):Bool:=
 eH (β:=Nat->Tm->Bool) (fun _ T=>k T) (fun a _ ih i T=>nQ a T i fun T=>bA (Nat.succ i) fun i=>ih i T) args 0 ⟨.leaf,n⟩
inductive fD where
 | dead
 | cells (vs:List Value) (elem:TypeId) (k:CK)
 | map (es:List MapEntry) (clock:Nat)
 | loop (tmps:Tm) (params:List Tmp) (assign body:Code) (state:LoopState) (pending:Option Code)
 | defers
 | iter (m:Option Nat) (since:Nat) (seen:List Nat) (last:Nat)
structure St where
 h:Tr fD
 n:Nat
inductive qZ where
 | normal
 | exit (id:Nat)
 | ret
structure aO where
 tmps:Tm
 marks:List Nat
 g:Nat
abbrev VK:=Value->St->Bool
abbrev Nd:=FuncId->List Value->St->VK->Bool
def aY:Value->Bool
 | .bool _ | .int .. | .string _ | .nilFunc | .nilIface | .pointer none | .slice none _ _ | .map none=>true
 | _=>false
def oneCell:Value->Bool
 | .agg _ | .tuple _=>false
 | _=>true
noncomputable def allB{α:Type} (f:α->Bool) (l:List α):Bool:=eH (β:=Bool) true (fun a _ ih=>dN (f a) ih false) l
def fX:Value->Bool
 | .agg cs=>cs.toList.all aY
 | v=>aY v
noncomputable def oN (A:aO) (x:Operand) (k:Value->Bool):Bool:=
 match x with
 | .tmp t=>IA A.tmps t k
 | .const v=>match fX v with | true=>k v | false=>false
 | .global g=>match Nat.blt g A.g with | true=>k (.pointer (some ⟨g,0,none⟩)) | false=>false
 | .func f=>k (.func (.func f) #[] #[])
noncomputable def FV (A:aO) (xs:List Operand) (k:List Value->Bool):Bool:=
 eH (β:=(List Value->Bool)->Bool) (fun k=>k []) (fun x _ ih k=>oN A x fun v=>ih fun vs=>k (v::vs)) xs k
noncomputable def iE (A:aO) (d:Option Tmp) (v:Value) (k:aO->Bool):Bool:=
 match d with
 | some d=>nQ v A.tmps d fun ts=>k ⟨ts,A.marks,A.g⟩
 | none=>k A
noncomputable def sH (Sz:St) (o:fD) (k:Nat->St->Bool):Bool:=
 IX o (Nat.succ Sz.n) Sz.h Sz.n fun h=>bA (Nat.succ Sz.n) fun n=>k Sz.n ⟨h,n⟩
noncomputable def mS (Sz:St) (i:Nat) (o:fD) (k:St->Bool):Bool:=IX o (Nat.succ i) Sz.h i fun h=>k ⟨h,Sz.n⟩
noncomputable def tZ (Sz:St) (i:Nat) (k:List Value->TypeId->CK->Bool):Bool:=
 nY Sz.h i fun o=>match o with | .cells vs e c=>k vs e c | _=>false
noncomputable def BU (Sz:St) (i off n:Nat) (k:List Value->Bool):Bool:=tZ Sz i fun vs _ _=>AQ off vs fun l=>FU n l k
noncomputable def YC (l:List Nat) (h:Tr fD) (k:Tr fD->Bool):Bool:=
 eH (β:=Tr fD->(Tr fD->Bool)->Bool) (fun h k=>k h) (fun i _ ih h k=>IX .dead (Nat.succ i) h i fun h=>ih h k) l h k
def Jj:Int->Int->Bool
 | .ofNat a,.ofNat b=>Nat.beq a b
 | .negSucc a,.negSucc b=>Nat.beq a b
 | _,_=>false
def vN:IntKind->IntKind->Bool
 | .i8,.i8 | .i16,.i16 | .i32,.i32 | .i64,.i64 | .u8,.u8 | .u16,.u16 | .u32,.u32 | .u64,.u64=>true
 | _,_=>false
noncomputable def asIs (new:List Value):List Value->Bool:=
 eH (β:=List Value->Bool) (fun _=>true) (fun a _ ih l=>TD l false fun b t=>match a,b with
  | .int j x,.int k y=>match vN j k with
   | true=>match Jj x y with | true=>ih t | false=>false
   | false=>false
  | _,_=>false) new
noncomputable def pU (Sz:St) (i off:Nat) (new:List Value) (k:St->Bool):Bool:=
 tZ Sz i fun vs e c=>
  match c with
  | .exact=>mM off new vs fun vs=>mS Sz i (.cells vs e .exact) k
  | .grown olds=>AQ off vs fun l=>match asIs new l with
   | true=>k Sz
   | false=>mM off new vs fun vs=>YC olds Sz.h fun h=>IX (.cells vs e (.grown [])) (Nat.succ i) h i fun h=>k ⟨h,Sz.n⟩
  | .rs=>AQ off vs fun l=>match asIs new l with | true=>k Sz | false=>false
  | _=>false
def Ef:Int->Int->Bool
 | .ofNat a,.ofNat b=>Nat.blt a b
 | .ofNat _,.negSucc _=>false
 | .negSucc _,.ofNat _=>true
 | .negSucc a,.negSucc b=>Nat.blt b a
def mU (k:IntKind) (n:Int):Int:=
 match k,n with
 | .i64,.ofNat m=>match Nat.blt m 9223372036854775808 with | true=> .ofNat m | false=>k.wrap n
 | .i64,.negSucc m=>match Nat.blt m 9223372036854775808 with | true=> .negSucc m | false=>k.wrap n
 | .u64,.ofNat m=>match Nat.blt m 18446744073709551616 with | true=> .ofNat m | false=>k.wrap n
 | .u8,.ofNat m=>match Nat.blt m 256 with | true=> .ofNat m | false=>k.wrap n
 | k,n=>k.wrap n
noncomputable def BM (k:IntKind) (n:Int) (K:Value->Bool):Bool:=tY (mU k n) fun n=>K (.int k n)
noncomputable def kL (b:Bool) (K:Value->Bool):Bool:=KJ b fun b=>K (.bool b)
noncomputable def DG (op:BinOp) (k:IntKind) (x y:Int) (K:Value->Bool):Bool:=
 match op with
 | .add=>BM k (Int.add x y) K
 | .sub=>BM k (Int.sub x y) K
 | .mul=>BM k (Int.mul x y) K
 | .quo=>match Jj y 0 with | true=>false | false=>BM k (Int.tdiv x y) K
 | .rem=>match Jj y 0 with | true=>false | false=>tY (Int.tmod x y) fun n=>K (.int k n)
 | .and=>tY (k.wrap (BitVec.ofInt k.bits x &&& BitVec.ofInt k.bits y).toNat) fun n=>K (.int k n)
 | .or=>tY (k.wrap (BitVec.ofInt k.bits x ||| BitVec.ofInt k.bits y).toNat) fun n=>K (.int k n)
 | .xor=>tY (k.wrap (BitVec.ofInt k.bits x ^^^ BitVec.ofInt k.bits y).toNat) fun n=>K (.int k n)
 | .andNot=>tY (k.wrap (BitVec.ofInt k.bits x &&& ~~~ BitVec.ofInt k.bits y).toNat) fun n=>K (.int k n)
 | .eql=>kL (Jj x y) K
 | .neq=>kL (!Jj x y) K
 | .lss=>kL (Ef x y) K
 | .leq=>kL (!Ef y x) K
 | .gtr=>kL (Ef y x) K
 | .geq=>kL (!Ef x y) K
 | _=>false
noncomputable def KL (op:BinOp) (k:IntKind) (x y:Int) (K:Value->Bool):Bool:=
 match Ef y 0 with
 | true=>false
 | false=>
  match op with
  | .shl=>BM k (x*2 ^ (min y.toNat k.bits)) K
  | .shr=>tY (x.fdiv (2 ^ (min y.toNat k.bits))) fun n=>K (.int k n)
  | _=>false
noncomputable def TE (a b:List UInt8):Bool:=
 eH (β:=List UInt8->Bool) (fun b=>match b with | []=>true | _=>false)
  (fun x _ ih b=>match b with | []=>false | y::b=>match Nat.beq x.toNat y.toNat with | true=>ih b | false=>false) a b
noncomputable def Ql (a b:List UInt8):Bool:=
 eH (β:=List UInt8->Bool) (fun b=>match b with | []=>false | _=>true)
  (fun x _ ih b=>match b with | []=>false | y::b=>match Nat.blt x.toNat y.toNat with | true=>true | false=>match Nat.beq x.toNat y.toNat with | true=>ih b | false=>false) a b
noncomputable def Al (op:BinOp) (a b:ByteArray) (K:Value->Bool):Bool:=
 match op with
 | .add=>yT a.data.toList fun n=>yT b.data.toList fun m=>match Nat.blt (n+m) 9223372036854775808 with
  | true=>wP a.data.toList b.data.toList fun l=>K (.string ⟨⟨l⟩⟩)
  | false=>false
 | .eql=>kL (TE a.data.toList b.data.toList) K
 | .neq=>kL (!TE a.data.toList b.data.toList) K
 | .lss=>kL (Ql a.data.toList b.data.toList) K
 | .leq=>kL (Ql a.data.toList b.data.toList || TE a.data.toList b.data.toList) K
 | .gtr=>kL (!(Ql a.data.toList b.data.toList || TE a.data.toList b.data.toList)) K
 | .geq=>kL (!Ql a.data.toList b.data.toList) K
 | _=>false
section ops
variable (P:Program)
def pV (t:TypeId):Option Bool:=(P.underlying t).map fun | .struct _ | .array _ _=>true | _=>false
def bL (t:TypeId):Option Nat:=(P.info? t).map (·.size)
def pJ (t:TypeId):Option (List Value):=((P.info? t).bind (·.zero)).map (·.cells.toList)
noncomputable def BV (t:TypeId) (a:Value) (Sz:St) (K:VK):Bool:=
 match a with
 | .pointer (some ⟨i,o,none⟩)=>
  match pV P t with
  | some false=>tZ Sz i fun vs _ _=>IY vs o fun v=>K v Sz
  | some true=>match bL P t with
   | some n=>BU Sz i o n fun l=>K (.agg ⟨l⟩) Sz
   | none=>false
  | none=>false
 | _=>false
noncomputable def kM (v:Value) (k:List Value->Bool):Bool:=
 match v with
 | .agg cs=>match allB oneCell cs.toList with | true=>k cs.toList | false=>false
 | .tuple _=>false
 | v=>k [v]
noncomputable def KM (t:TypeId) (a x:Value) (Sz:St) (k:St->Bool):Bool:=
 match a with
 | .pointer (some ⟨i,o,none⟩)=>
  match bL P t with
  | some n=>kM x fun cs=>yT cs fun m=>match Nat.beq m n with
   | true=>pU Sz i o cs k
   | false=>false
  | none=>false
 | _=>false
noncomputable def Qm (d:Nat) (x:Option Value) (k:Nat->Bool):Bool:=
 match x with
 | none=>k d
 | some (.int _ (.ofNat n))=>k n
 | _=>false
noncomputable def DH (len cap:Nat) (lo hi mx:Option Value) (k:Nat->Nat->Nat->Bool):Bool:=
 Qm cap mx fun m=>Qm len hi fun h=>Qm 0 lo fun l=>
  match Nat.ble l h,Nat.ble h m,Nat.ble m cap with
  | true,true,true=>k l h m
  | _,_,_=>false
def isSlice (t:TypeId):Option TypeId:=match P.underlying t with | some (.slice e)=>some e | _=>none
noncomputable def nZ (t:TypeId) (x:Value) (lo hi mx:Option Value) (Sz:St) (K:Value->Bool):Bool:=
 match x with
 | .string s=>
  match P.underlying t,mx with
  | some .string,none=>yT s.data.toList fun n=>DH n n lo hi none fun l h _=>FU h s.data.toList fun a=>AQ l a fun b=>K (.string ⟨⟨b⟩⟩)
  | _,_=>false
 | .slice none len cap=>
  match isSlice P t with
  | some elem=>match bL P elem with
   | some _=>DH len cap lo hi mx fun l h m=>bA (h-l) fun n=>bA (m-l) fun c=>K (.slice none n c)
   | none=>false
  | none=>false
 | .slice (some ⟨i,o,sp⟩) len cap=>
  match isSlice P t with
  | some elem=>match bL P elem with
   | some size=>DH len cap lo hi mx fun l h m=>bA (h-l) fun n=>bA (m-l) fun c=>bA (o+l*size) fun o'=>
    match sp,mx with
    | none,_=>match Nat.beq m l with | true=>K (.slice (some ⟨i,o,none⟩) n c) | false=>K (.slice (some ⟨i,o',none⟩) n c)
    | some 0,some _=>match Nat.beq m l with | true=>K (.slice (some ⟨i,o,none⟩) n c) | false=>K (.slice (some ⟨i,o',none⟩) n c)
    | some 0,none=>match Nat.beq m l with
     | true=>K (.slice (some ⟨i,0,some 1⟩) 0 0)
     | false=>tZ Sz i fun _ e ck=>match ck,bL P e with
      | .exact,_=>false
      | _,some q=>match Nat.beq q size with | true=>K (.slice (some ⟨i,o',some 0⟩) n c) | false=>false
      | _,none=>false
    | some _,_=>K (.slice (some ⟨i,0,some 1⟩) 0 0)
   | none=>false
  | none=>false
 | .pointer (some ⟨i,o,none⟩)=>
  match P.underlying t with
  | some (.array len elem)=>match bL P elem with
   | some size=>DH len len lo hi mx fun l h m=>bA (h-l) fun n=>bA (m-l) fun c=>bA (o+l*size) fun o'=>
    match Nat.beq m l with | true=>K (.slice (some ⟨i,o,none⟩) n c) | false=>K (.slice (some ⟨i,o',none⟩) n c)
   | none=>false
  | _=>false
 | _=>false
noncomputable def vO (t:TypeId) (x ix:Value) (K:Value->Bool):Bool:=
 match ix with
 | .int _ (.ofNat i)=>
  match x with
  | .slice (some ⟨b,o,sp⟩) len _=>
   match sp with
   | some (_+1)=>false
   | _=>match isSlice P t with
    | some elem=>match bL P elem,Nat.blt i len with
     | some size,true=>bA (o+i*size) fun o=>K (.pointer (some ⟨b,o,none⟩))
     | _,_=>false
    | none=>false
  | .pointer (some ⟨b,o,none⟩)=>
   match P.underlying t with
   | some (.array len elem)=>match bL P elem,Nat.blt i len with
    | some size,true=>bA (o+i*size) fun o=>K (.pointer (some ⟨b,o,none⟩))
    | _,_=>false
   | _=>false
  | _=>false
 | _=>false
def uA (s:TypeId) (f:Nat):Option Field:=match P.underlying s with | some (.struct fs)=>fs[f]? | _=>none
noncomputable def vP (s:TypeId) (x:Value) (f:Nat) (K:Value->Bool):Bool:=
 match x with
 | .pointer (some ⟨b,o,none⟩)=>
  match uA P s f with
  | some fd=>match bL P fd.type with
   | some (_+1)=>bA (o+fd.offset) fun o=>K (.pointer (some ⟨b,o,none⟩))
   | _=>false
  | none=>false
 | _=>false
noncomputable def YD (t:TypeId) (cs:List Value) (off:Nat) (K:Value->Bool):Bool:=
 match pV P t with
 | some false=>IY cs off K
 | some true=>match bL P t with
  | some n=>AQ off cs fun l=>FU n l fun l=>K (.agg ⟨l⟩)
  | none=>false
 | none=>false
noncomputable def FW (t:TypeId) (x:Value) (f:Nat) (K:Value->Bool):Bool:=
 match x with
 | .agg cs=>match uA P t f with
  | some fd=>YD P fd.type cs.toList fd.offset K
  | none=>false
 | _=>false
noncomputable def OO (t:TypeId) (x ix:Value) (K:Value->Bool):Bool:=
 match ix with
 | .int _ (.ofNat i)=>
  match x with
  | .agg cs=>match P.underlying t with
   | some (.array len elem)=>match bL P elem,Nat.blt i len with
    | some size,true=>YD P elem cs.toList (i*size) K
    | _,_=>false
   | _=>false
  | .string s=>match P.underlying t with
   | some .string=>IY s.data.toList i fun b=>bA b.toNat fun n=>K (.int .u8 (.ofNat n))
   | _=>false
  | _=>false
 | _=>false
noncomputable def JG (place:Nat->Option (Nat×Nat)) (parts:List (Nat×Value)) (cells:List Value) (k:List Value->Bool):Bool:=
 eH (β:=List Value->Bool) (fun cs=>k cs)
  (fun p _ ih cs=>match place p.1 with
   | some (off,size)=>kM p.2 fun new=>yT new fun m=>match Nat.beq m size with
    | true=>mM off new cs ih
    | false=>false
   | none=>false) parts cells
noncomputable def xL (A:aO) (parts:List (Nat×Operand)) (k:List (Nat×Value)->Bool):Bool:=
 eH (β:=(List (Nat×Value)->Bool)->Bool) (fun k=>k []) (fun p _ ih k=>oN A p.2 fun v=>ih fun l=>k ((p.1,v)::l)) parts k
def placesOf (fields:List Field):Option (List (Nat×Nat)):=fields.mapM fun f=>(bL P f.type).map fun s=>(f.offset,s)
noncomputable def TF (A:aO) (t:TypeId) (parts:List (Nat×Operand)) (K:Value->Bool):Bool:=
 match pJ P t,P.underlying t with
 | some zero,some (.struct fields)=>match placesOf P fields.toList with
  | some pl=>match allB aY zero with
   | true=>xL A parts fun ps=>JG (pl[·]?) ps zero fun cs=>K (.agg ⟨cs⟩)
   | false=>false
  | none=>false
 | some zero,some (.array _ elem)=>match bL P elem with
  | some size=>match allB aY zero with
   | true=>xL A parts fun ps=>JG (fun i=>some (i*size,size)) ps zero fun cs=>K (.agg ⟨cs⟩)
   | false=>false
  | none=>false
 | _,_=>false
noncomputable def sU (A:aO) (t:TypeId) (len:Nat) (parts:List (Nat×Operand)) (Sz:St) (K:VK):Bool:=
 match isSlice P t with
 | some elem=>match bL P elem,pJ P elem with
  | some (size+1),some zero=>match Nat.ble (len*(size+1)) 16777216,Nat.beq zero.length (size+1)with
   | true,true=>match allB aY zero with
    | true=>Ek zero len fun cs=>xL A parts fun ps=>JG (fun i=>some (i*(size+1),size+1)) ps cs fun cs=>
     sH Sz (.cells cs elem .exact) fun i Sz=>K (.slice (some ⟨i,0,none⟩) len len) Sz
    | false=>false
   | _,_=>false
  | _,_=>false
 | none=>false
noncomputable def FX (t:TypeId) (Sz:St) (K:VK):Bool:=
 match pJ P t with
 | some zero=>match allB aY zero with
  | true=>aA4 zero fun zero=>sH Sz (.cells zero t .exact) fun i Sz=>K (.pointer (some ⟨i,0,none⟩)) Sz
  | false=>false
 | none=>false
noncomputable def El (t:TypeId) (v:Value) (Sz:St) (K:VK):Bool:=
 kM v fun cs=>sH Sz (.cells cs t .exact) fun i Sz=>K (.pointer (some ⟨i,0,none⟩)) Sz
noncomputable def pW (t:TypeId) (len cap:Value) (Sz:St) (K:VK):Bool:=
 match len,cap with
 | .int _ (.ofNat l),.int _ (.ofNat c)=>
  match isSlice P t with
  | some elem=>match P.info? elem,pJ P elem with
   | some info,some zero=>match Nat.ble l c,Nat.ble (info.bytes*c) 1099511627776,Nat.ble c 1099511627776,Nat.beq zero.length info.size,info.size with
    | true,true,true,true,_+1=>match allB aY zero with
     | true=>match Nat.ble c 65536 with
      | true=>Ek zero c fun cs=>sH Sz (.cells cs elem .exact) fun i Sz=>K (.slice (some ⟨i,0,none⟩) l c) Sz
      | false=>sH Sz .dead fun i Sz=>K (.slice (some ⟨i,0,none⟩) l c) Sz
     | false=>false
    | _,_,_,_,_=>false
   | _,_=>false
  | none=>false
 | _,_=>false
def lV (t:TypeId):Bool:=match P.underlying t with | some (.int _) | some .string | some .bool=>true | _=>false
noncomputable def pK (t:TypeId) (a b:Value) (k:Bool->Bool):Bool:=
 match P.underlying t with
 | some (.int _)=>match a,b with
  | .int j x,.int l y=>match vN j l with | true=>KJ (Jj x y) k | false=>false
  | _,_=>false
 | some .string=>match a,b with
  | .string x,.string y=>KJ (TE x.data.toList y.data.toList) k
  | _,_=>false
 | some .bool=>match a,b with
  | .bool x,.bool y=>KJ (x==y) k
  | _,_=>false
 | _=>false
noncomputable def BW (fs:List Field) (a b:List Value) (k:Bool->Bool):Bool:=
 eH (β:=List Value->List Value->Bool) (fun _ _=>k true)
  (fun f _ ih a b=>TD a false fun x a=>TD b false fun y b=>pK P f.type x y fun e=>match e with | true=>ih a b | false=>k false) fs a b
def pX:Nat->List Field->Bool
 | _,[]=>true
 | i,f::fs=>f.name != "_" &&f.offset==i&&lV P f.type&&pX (i+1) fs
def DI (t:TypeId):Option (List Field):=
 match P.underlying t with
 | some (.struct fs)=>if pX P 0 fs.toList&& !P.stoodInHeld t&& !P.eqGuardType P.depth t then some fs.toList else none
 | _=>none
noncomputable def lW (t:TypeId) (a b:Value) (k:Bool->Bool):Bool:=
 match a,b with
 | .agg xs,.agg ys=>match DI P t with
  | some fs=>BW P fs xs.toList ys.toList k
  | none=>false
 | .pointer (some _),.pointer none | .pointer none,.pointer (some _)=>match P.underlying t with | some (.pointer _)=>k false | _=>false
 | .pointer none,.pointer none=>match P.underlying t with | some (.pointer _)=>k true | _=>false
 | .slice (some _) _ _,.slice none _ _ | .slice none _ _,.slice (some _) _ _=>match P.underlying t with | some (.slice _)=>k false | _=>false
 | .slice none _ _,.slice none _ _=>match P.underlying t with | some (.slice _)=>k true | _=>false
 | .map (some _),.map none | .map none,.map (some _)=>match P.underlying t with | some (.map _ _)=>k false | _=>false
 | .map none,.map none=>match P.underlying t with | some (.map _ _)=>k true | _=>false
 | .func _ _ _,.nilFunc | .nilFunc,.func _ _ _=>match P.underlying t with | some (.func _ _ _)=>k false | _=>false
 | .nilFunc,.nilFunc=>match P.underlying t with | some (.func _ _ _)=>k true | _=>false
 | .iface _ _,.nilIface | .nilIface,.iface _ _=>match P.underlying t with | some (.interface _)=>k false | _=>false
 | .bool x,.bool y=>match P.underlying t with | some .bool=>KJ (x==y) k | _=>false
 | _,_=>false
noncomputable def RM (op:BinOp) (t:TypeId) (a b:Value) (K:Value->Bool):Bool:=
 match a,b with
 | .int k x,.int k' y=>match op with
  | .shl | .shr=>KL op k x y K
  | _=>match vN k k' with | true=>DG op k x y K | false=>false
 | .string x,.string y=>Al op x y K
 | a,b=>match op with
  | .eql=>lW P t a b fun e=>kL e K
  | .neq=>lW P t a b fun e=>kL (!e) K
  | _=>false
noncomputable def unK (op:UnOp) (a:Value) (K:Value->Bool):Bool:=
 match op,a with
 | .neg,.int k n=>BM k (Int.sub 0 n) K
 | .xor,.int k n=>tY (k.wrap (BitVec.ofInt k.bits (if k.signed then-1 else k.max) ^^^ BitVec.ofInt k.bits n).toNat) fun n=>K (.int k n)
 | .not,.bool b=>kL (!b) K
 | _,_=>false
noncomputable def Ui (l:List UInt8) (k:List Value->Bool):Bool:=
 eH (β:=(List Value->Bool)->Bool) (fun k=>k []) (fun b _ ih k=>bA b.toNat fun n=>ih fun t=>k (.int .u8 (.ofNat n)::t)) l k
noncomputable def Jm (l:List Value) (k:List UInt8->Bool):Bool:=
 eH (β:=(List UInt8->Bool)->Bool) (fun k=>k []) (fun v _ ih k=>match v with | .int .u8 (.ofNat n)=>ih fun t=>k (UInt8.ofNat n::t) | _=>false) l k
noncomputable def PZ (src dst:TypeId) (x:Value) (Sz:St) (K:VK):Bool:=
 match x with
 | .int _ n=>match P.underlying src,P.underlying dst with
  | some _,some (.int k)=>BM k n fun v=>K v Sz
  | _,_=>false
 | .string s=>match P.underlying src,P.underlying dst with
  | some .string,some .string=>K (.string s) Sz
  | some .string,some (.slice e)=>match P.underlying e,bL P e with
   | some (.int .u8),some 1=>Ui s.data.toList fun l=>yT l fun n=>sH Sz (.cells l e (.grown [])) fun i Sz=>K (.slice (some ⟨i,0,some 0⟩) n n) Sz
   | _,_=>false
  | _,_=>false
 | .slice none _ _=>match P.underlying src,P.underlying dst with
  | some (.slice e),some .string=>match P.underlying e with
   | some (.int .u8)=>K (.string ⟨⟨[]⟩⟩) Sz
   | _=>false
  | _,_=>false
 | .slice (some ⟨i,o,sp⟩) len _=>match P.underlying src,P.underlying dst,sp with
  | _,_,some (_+1)=>false
  | some (.slice e),some .string,_=>match P.underlying e with
   | some (.int .u8)=>BU Sz i o len fun l=>Jm l fun l=>K (.string ⟨⟨l⟩⟩) Sz
   | _=>false
  | _,_,_=>false
 | _=>false
noncomputable def An (Sz:St) (m:Value) (k:Option Nat->List MapEntry->Nat->Bool):Bool:=
 match m with
 | .map none=>k none [] 0
 | .map (some r)=>nY Sz.h r fun o=>match o with | .map es c=>k (some r) es c | _=>false
 | _=>false
noncomputable def xM (t:TypeId) (a b:Value) (k:Bool->Bool):Bool:=
 match a,b with
 | .agg _,.agg _=>lW P t a b k
 | a,b=>pK P t a b k
noncomputable def QA (t:TypeId) (key:Value) (es:List MapEntry) (k:Option (Nat×MapEntry)->Bool):Bool:=
 eH (β:=Nat->Bool) (fun _=>k none)
  (fun e _ ih i=>xM P t key e.key fun b=>match b with | true=>k (some (i,e)) | false=>bA (Nat.succ i) ih) es 0
def ES (t:TypeId) (key:Value):Bool:=
 match fX key with
 | true=>match lV P t with
  | true=>true
  | false=>match DI P t,key with
   | some fs,.agg cs=>Nat.ble fs.length cs.toList.length
   | _,_=>false
 | false=>false
def FJ (t:TypeId):Option (TypeId×TypeId):=match P.underlying t with | some (.map k e)=>some (k,e) | _=>none
def zeroV (t:TypeId):Option Value:=(P.info? t).bind (·.zero)
noncomputable def IC (t:TypeId) (x ix:Value) (ok:Bool) (Sz:St) (K:VK):Bool:=
 match FJ P t with
 | some (kt,et)=>match ES P kt ix,zeroV P et with
  | true,some zero=>An Sz x fun _ es _=>QA P kt ix es fun r=>
   match r with
   | some (_,e)=>match ok with | true=>K (.tuple ⟨[e.val,.bool true]⟩) Sz | false=>K e.val Sz
   | none=>match fX zero with
    | true=>match ok with | true=>K (.tuple ⟨[zero,.bool false]⟩) Sz | false=>K zero Sz
    | false=>false
  | _,_=>false
 | none=>false
noncomputable def vQ (t:TypeId) (m key x:Value) (Sz:St) (k:St->Bool):Bool:=
 match FJ P t with
 | some (kt,_)=>match ES P kt key with
  | true=>An Sz m fun r es c=>match r with
   | some r=>QA P kt key es fun f=>
    match f with
    | some (i,e)=>match Instr.sameBits 10000 e.key key with
     | true=>Nb {e with val:=x} es i fun es=>mS Sz r (.map es c) k
     | false=>false
    | none=>wP es [{key:=key,val:=x,born:=c}] fun es=>bA (Nat.succ c) fun c=>mS Sz r (.map es c) k
   | none=>false
  | false=>false
 | none=>false
noncomputable def OP (t:TypeId) (m key:Value) (Sz:St) (K:VK):Bool:=
 match FJ P t with
 | some (kt,et)=>match ES P kt key,zeroV P et with
  | true,some zero=>An Sz m fun r es c=>match r with
   | some r=>QA P kt key es fun f=>
    match f with
    | some (_,e)=>match Instr.sameBits 10000 e.key key with
     | true=>K (.tuple ⟨[e.val,.int .i64 (.ofNat e.born)]⟩) Sz
     | false=>false
    | none=>match fX zero with
     | true=>wP es [{key:=key,val:=zero,born:=c}] fun es=>bA (Nat.succ c) fun c'=>mS Sz r (.map es c') fun Sz=>K (.tuple ⟨[zero,.int .i64 (.ofNat c)]⟩) Sz
     | false=>false
   | none=>false
  | _,_=>false
 | none=>false
noncomputable def Uj (n:Nat) (es:List MapEntry) (k:Nat->MapEntry->Bool):Bool:=
 eH (β:=Nat->Bool) (fun _=>false) (fun e _ ih i=>match Nat.beq e.born n with | true=>k i e | false=>bA (Nat.succ i) ih) es 0
noncomputable def FY (m s x:Value) (Sz:St) (k:St->Bool):Bool:=
 match s with
 | .int _ (.ofNat n)=>An Sz m fun r es c=>match r with
  | some r=>Uj n es fun i e=>Nb {e with val:=x} es i fun es=>mS Sz r (.map es c) k
  | none=>false
 | _=>false
noncomputable def Uk{α:Type} (l:List α) (i:Nat) (k:List α->Bool):Bool:=
 eH (β:=Nat->(List α->Bool)->Bool) (fun _ k=>k []) (fun a t ih i k=>kK i (k t) fun p=>ih p fun t'=>k (a::t')) l i k
noncomputable def Ao (argTypes:List TypeId) (m key:Value) (Sz:St) (k:St->Bool):Bool:=
 match argTypes with
 | t::_=>match FJ P t with
  | some (kt,_)=>match ES P kt key with
   | true=>An Sz m fun r es c=>match r with
    | none=>k Sz
    | some r=>QA P kt key es fun f=>match f with
     | some (i,_)=>Uk es i fun es=>mS Sz r (.map es c) k
     | none=>k Sz
   | false=>false
  | none=>false
 | []=>false
noncomputable def aA5 (n:Nat) (l:List Nat):Bool:=eH (β:=Bool) false (fun m _ ih=>dN (Nat.beq m n) true ih) l
noncomputable def Em (seen:List Nat) (es:List MapEntry) (k:List MapEntry->Bool):Bool:=
 eH (β:=(List MapEntry->Bool)->Bool) (fun k=>k []) (fun e _ ih k=>dN (aA5 e.born seen) (ih k) (ih fun t=>k (e::t))) es k
noncomputable def Ap (t:TypeId) (x:Value) (Sz:St) (K:VK):Bool:=
 match FJ P t with
 | some _=>match x with
  | .map none=>sH Sz (.iter none 0 [] 0) fun i Sz=>K (.pointer (some ⟨i,0,none⟩)) Sz
  | .map (some r)=>nY Sz.h r fun o=>match o with
   | .map _ c=>sH Sz (.iter (some r) c [] c) fun i Sz=>K (.pointer (some ⟨i,0,none⟩)) Sz
   | _=>false
  | _=>false
 | none=>false
noncomputable def Ul (it:Value) (Sz:St) (K:VK):Bool:=
 match it with
 | .pointer (some ⟨i,0,none⟩)=>nY Sz.h i fun o=>match o with
  | .iter none _ _ _=>K (.tuple ⟨[.bool false]⟩) Sz
  | .iter (some r) since seen last=>nY Sz.h r fun o=>match o with
   | .map es c=>match allB (fun e=>Nat.blt e.born since) es,Nat.ble since last with
    | true,true=>Em seen es fun l=>match l with
     | []=>K (.tuple ⟨[.bool false]⟩) Sz
     | e::t=>allB (fun e=>wP seen [e.born] fun seen=>mS Sz i (.iter (some r) since seen c) fun Sz=>K (.tuple ⟨[.bool true,e.key,e.val]⟩) Sz) (e::t)
    | _,_=>false
   | _=>false
  | _=>false
 | _=>false
noncomputable def Um (l:List Nat) (k:Nat->Bool):Bool:=eH (β:=Bool) false (fun n t ih=>match t with | []=>k n | _=>ih) l
noncomputable def Jn (it:Value) (Sz:St) (K:VK):Bool:=
 match it with
 | .pointer (some ⟨i,0,none⟩)=>nY Sz.h i fun o=>match o with
  | .iter (some r) _ seen last=>nY Sz.h r fun o=>match o with
   | .map es c=>match Nat.beq c last with
    | true=>Um seen fun b=>Uj b es fun _ e=>K (.tuple ⟨[e.key,e.val]⟩) Sz
    | false=>false
   | _=>false
  | _=>false
 | _=>false
noncomputable def JH (big:Bool) (l:List Value) (j:IntKind) (x:Int) (K:Value->Bool):Bool:=
 eH (β:=Int->Bool) (fun x=>K (.int j x)) (fun v _ ih x=>match v with
  | .int _ y=>dN (dN big (Ef x y) (Ef y x)) (ih y) (ih x)
  | _=>false) l x
noncomputable def BN (Sz:St) (size n:Nat) (x:Value) (k:List Value->Bool):Bool:=
 match x with
 | .slice none _ _=>match n with | 0=>k [] | _=>false
 | .slice (some ⟨i,o,sp⟩) _ _=>match n with
  | 0=>k []
  | n+1=>match sp with
   | some (_+1)=>false
   | _=>BU Sz i o ((n+1)*size) k
 | .string s=>match size with
  | 1=>FU n s.data.toList fun l=>Ui l k
  | _=>false
 | _=>false
noncomputable def ET (x:Value) (k:Nat->Bool):Bool:=
 match x with
 | .slice _ n _=>k n
 | .string s=>yT s.data.toList k
 | _=>false
noncomputable def EU (elem:TypeId) (old new:List Value) (n:Nat) (from_:Option (Nat×List Value×TypeId×List Nat)) (Sz:St) (K:VK):Bool:=
 wP old new fun cs=>
  match from_ with
  | none=>sH Sz (.cells cs elem (.grown [])) fun i Sz=>K (.slice (some ⟨i,0,some 0⟩) n n) Sz
  | some (b,vs,e,olds)=>mS Sz b (.cells vs e .stale) fun Sz=>sH Sz (.cells cs elem (.grown (b::olds))) fun i Sz=>K (.slice (some ⟨i,0,some 0⟩) n n) Sz
def WQ:Option TypeDesc->Bool
 | some (.slice _) | some .string=>true
 | _=>false
def WR:Option Nat->Bool
 | none | some 0=>true
 | _=>false
noncomputable def OQ (size:Nat) (new:List Value) (base:Option Addr) (sLen sCap need:Nat) (Sz:St) (K:VK):Bool:=
 match base with
 | some ⟨b,o,sp⟩=>match WR sp,allB oneCell new with
  | true,true=>bA (o+sLen*size) fun at_=>pU Sz b at_ new fun Sz=>K (.slice (some ⟨b,o,sp⟩) need sCap) Sz
  | _,_=>false
 | none=>false
noncomputable def LO (elem:TypeId) (size:Nat) (new:List Value) (base:Option Addr) (sLen need:Nat) (Sz:St) (K:VK):Bool:=
 match base with
 | none=>match sLen with | 0=>EU elem [] new need none Sz K | _=>false
 | some ⟨b,o,none⟩=>BU Sz b o (sLen*size) fun old=>EU elem old new need none Sz K
 | some ⟨b,o,some 0⟩=>tZ Sz b fun vs e c=>yT vs fun m=>match Nat.beq (o+sLen*size) m,c,bL P e with
  | true,.grown olds,some q=>match Nat.beq q size,allB oneCell new,Nat.beq e elem with
   | true,true,true=>BU Sz b o (sLen*size) fun old=>EU elem old new need (some (b,vs,e,olds)) Sz K
   | _,_,_=>false
  | _,_,_=>false
 | _=>false
noncomputable def DJ (argTypes:List TypeId) (s x:Value) (Sz:St) (K:VK):Bool:=
 match argTypes with
 | sT::xT::_=>
  match isSlice P sT,WQ (P.underlying xT)with
  | some elem,true=>match P.info? elem with
   | some info=>match info.size,info.zero,s with
    | size+1,some z,.slice base sLen sCap=>match Nat.beq z.cells.size (size+1)with
     | true=>ET x fun n=>
      match n with
      | 0=>match Nat.ble sLen sCap with | true=>K (.slice base sLen sCap) Sz | false=>false
      | n'+1=>BN Sz (size+1) (n'+1) x fun new=>bA (sLen+(n'+1)) fun need=>
       match Nat.ble (need*(info.bytes+1)) 1099511627776 with
       | true=>match Nat.ble need sCap with
        | true=>OQ (size+1) new base sLen sCap need Sz K
        | false=>LO P elem (size+1) new base sLen need Sz K
       | false=>false
     | false=>false
    | _,_,_=>false
   | none=>false
  | _,_=>false
 | _=>false
noncomputable def YE (argTypes:List TypeId) (dst src:Value) (Sz:St) (K:VK):Bool:=
 match argTypes with
 | dT::_=>match isSlice P dT with
  | some elem=>match bL P elem,dst with
   | some (size+1),.slice base dLen _=>ET src fun m=>bA (Nat.min m dLen) fun n=>
    match n with
    | 0=>K (.int .i64 (.ofNat 0)) Sz
    | n'+1=>BN Sz (size+1) (n'+1) src fun cs=>match base with
     | some ⟨i,o,sp⟩=>match WR sp,allB oneCell cs with
      | true,true=>pU Sz i o cs fun Sz=>K (.int .i64 (.ofNat (n'+1))) Sz
      | _,_=>false
     | none=>false
   | _,_=>false
  | none=>false
 | []=>false
noncomputable def lL (b:Builtin) (argTypes:List TypeId) (args:List Value) (Sz:St) (K:VK):Bool:=
 match b,args with
 | .len,[x]=>match argTypes with
  | t::_=>match x with
   | .slice _ n _=>match isSlice P t with | some _=>K (.int .i64 (.ofNat n)) Sz | none=>false
   | .string s=>match P.underlying t with | some .string=>yT s.data.toList fun n=>K (.int .i64 (.ofNat n)) Sz | _=>false
   | .map _=>match FJ P t with | some _=>An Sz x fun _ es _=>yT es fun n=>K (.int .i64 (.ofNat n)) Sz | none=>false
   | .agg _=>match P.underlying t with | some (.array n _)=>K (.int .i64 (.ofNat n)) Sz | _=>false
   | _=>false
  | []=>false
 | .append,[s,x]=>DJ P argTypes s x Sz K
 | .copy,[d,s]=>YE P argTypes d s Sz K
 | .delete,[m,k]=>Ao P argTypes m k Sz fun Sz=>K (.tuple #[]) Sz
 | .min,.int j x::l=>JH false l j x fun v=>K v Sz
 | .max,.int j x::l=>JH true l j x fun v=>K v Sz
 | .cap,[x]=>match argTypes with
  | t::_=>match isSlice P t,x with
   | some _,.slice none _ c=>K (.int .i64 (.ofNat c)) Sz
   | some _,.slice (some ⟨_,_,none⟩) _ c=>K (.int .i64 (.ofNat c)) Sz
   | _,_=>false
  | []=>false
 | .clear,[.slice base n _]=>match argTypes with
  | t::_=>match isSlice P t with
   | some elem=>match bL P elem,pJ P elem with
    | some size,some zero=>match base,n with
     | none,_=>K (.tuple #[]) Sz
     | some _,0=>K (.tuple #[]) Sz
     | some ⟨i,o,sp⟩,n+1=>match WR sp,Nat.beq zero.length size,allB aY zero,size with
      | true,true,true,_+1=>Ek zero (n+1) fun cs=>pU Sz i o cs fun Sz=>K (.tuple #[]) Sz
      | _,_,_,_=>false
    | _,_=>false
   | none=>false
  | []=>false
 | _,_=>false
end ops
structure Env where
 P:Program
 ov:FuncId->Option (List Value->St->VK->Bool)
 call:Nd
 round:Nat->List Value->St->VK->Bool
 most:Nat
def yU (P:Program) (t:TypeId) (name:String):Option FuncId:=match P.info? t,P.underlying t with
 | some info,some d=>match info.methods.find? (·.name==name)with
  | some m=>match m.path.toList,m.func with
   | [],some (g,pr)=>match d,pr with
    | .pointer _,true=>some g
    | .pointer _,false=>none
    | _,false=>some g
    | _,true=>none
   | _,_=>none
  | none=>none
 | _,_=>none
noncomputable def iQ (E:Env) (A:aO) (c:Call) (Sz:St) (K:VK):Bool:=
 FV A c.args.toList fun args=>
  match c.callee with
  | .builtin b=>lL E.P b c.argTypes.toList args Sz K
  | .value f=>oN A f fun f=>match f with
   | .func (.func g) first captured=>wP first.toList args fun l=>wP l captured.toList fun l=>E.call g l Sz K
   | .func (.yield l) first captured=>match first.toList,captured.toList with
    | [],[]=>E.round l args Sz K
    | _,_=>false
   | _=>false
  | .invoke r m=>oN A r fun v=>match v with
   | .iface t x=>match yU E.P t m with
    | some g=>E.call g (x::args) Sz K
    | none=>false
   | _=>false
noncomputable def KN (A:aO) (x:Option Operand) (k:Option Value->Bool):Bool:=
 match x with
 | none=>k none
 | some x=>oN A x fun v=>k (some v)
noncomputable def rP (E:Env) (o:Oper) (A:aO) (Sz:St) (K:VK):Bool:=
 match o.op with
 | .move x | .assign x=>oN A x fun v=>K v Sz
 | .pick c a b=>oN A c fun c=>oN A a fun a=>oN A b fun b=>match c with
  | .bool true=>K a Sz
  | .bool false=>K b Sz
  | _=>false
 | .alloc t=>FX E.P t Sz K
 | .box t x=>oN A x fun v=>El t v Sz K
 | .build t ps=>TF E.P A t ps.toList fun v=>K v Sz
 | .buildSlice t n ps=>sU E.P A t n ps.toList Sz K
 | .load t a=>oN A a fun a=>BV E.P t a Sz K
 | .store t a x=>oN A a fun a=>oN A x fun x=>KM E.P t a x Sz fun Sz=>K undef Sz
 | .nilCheck x=>oN A x fun v=>match v with
  | .pointer (some a)=>K (.pointer (some a)) Sz
  | .func (.func f) a b=>K (.func (.func f) a b) Sz
  | .func (.yield f) a b=>K (.func (.yield f) a b) Sz
  | .func (.method s) ⟨[.iface t w]⟩ ⟨[]⟩=>match yU E.P t s with
   | some _=>K (.func (.method s) ⟨[.iface t w]⟩ ⟨[]⟩) Sz
   | none=>false
  | .iface t w=>K (.iface t w) Sz
  | _=>false
 | .binOp op t x y _=>oN A x fun a=>oN A y fun b=>RM E.P op t a b fun v=>K v Sz
 | .unOp op _ x=>oN A x fun a=>unK op a fun v=>K v Sz
 | .convert s d x=>oN A x fun a=>PZ E.P s d a Sz K
 | .makeInterface t x=>oN A x fun v=>match E.P.underlying t with
  | some (.interface _)=>false
  | some _=>K (.iface t v) Sz
  | none=>false
 | .makeFunc fn first cap=>match fn with
  | .func f=>FV A first.toList fun a=>FV A cap.toList fun b=>K (.func (.func f) ⟨a⟩ ⟨b⟩) Sz
  | .method s=>match first.toList,cap.toList with
   | [x],[]=>oN A x fun v=>K (.func (.method s) ⟨[v]⟩ ⟨[]⟩) Sz
   | _,_=>false
  | _=>false
 | .makeMap _ none=>sH Sz (.map [] 0) fun i Sz=>K (.map (some i)) Sz
 | .makeMap t (some r)=>oN A r fun r=>match r,FJ E.P t with
  | .int _ _,some _=>sH Sz (.map [] 0) fun i Sz=>K (.map (some i)) Sz
  | _,_=>false
 | .range t x=>oN A x fun x=>Ap E.P t x Sz K
 | .next it s=>oN A it fun it=>match s with | true=>false | false=>Ul it Sz K
 | .entry it=>oN A it fun it=>Jn it Sz K
 | .typeAssert x _ as ok=>oN A x fun v=>match v,E.P.underlying as with
  | .iface _ _,some (.interface _)=>false
  | .iface t w,some _=>match Nat.beq t as,ok with
   | true,true=>K (.tuple ⟨[w,.bool true]⟩) Sz
   | true,false=>K w Sz
   | false,_=>false
  | _,_=>false
 | .makeSlice t l c=>oN A l fun l=>oN A c fun c=>pW E.P t l c Sz K
 | .slice t x lo hi mx=>match mx,hi with
  | some _,none=>false
  | _,_=>oN A x fun x=>KN A lo fun lo=>KN A hi fun hi=>KN A mx fun mx=>nZ E.P t x lo hi mx Sz fun v=>K v Sz
 | .fieldAddr s x f=>oN A x fun x=>vP E.P s x f fun v=>K v Sz
 | .field t x f=>oN A x fun x=>FW E.P t x f fun v=>K v Sz
 | .indexAddr t x ix=>oN A x fun x=>oN A ix fun ix=>vO E.P t x ix fun v=>K v Sz
 | .index t x ix=>oN A x fun x=>oN A ix fun ix=>OO E.P t x ix fun v=>K v Sz
 | .lookup t x ix ok=>oN A x fun x=>oN A ix fun ix=>IC E.P t x ix ok Sz K
 | .mapUpdate t m k x | .insert t m k x=>oN A m fun m=>oN A k fun k=>oN A x fun x=>vQ E.P t m k x Sz fun Sz=>K undef Sz
 | .mapEntry t m k=>oN A m fun m=>oN A k fun k=>OP E.P t m k Sz K
 | .entryStore _ m s x=>oN A m fun m=>oN A s fun s=>oN A x fun x=>FY m s x Sz fun Sz=>K undef Sz
 | .extract t i=>oN A t fun v=>match v with
  | .tuple vs=>IY vs.toList i fun v=>K v Sz
  | _=>false
 | .call c=>iQ E A c Sz K
 | _=>false
noncomputable def uB (ops:Array Oper) (o:Oper) (A:aO) (k:Bool->Bool):Bool:=
 match o.guard with
 | none=>k true
 | some (j,want)=>match ops[j]? with
  | some o'=>match o'.dst with
   | some d=>IA A.tmps d fun v=>match v with
    | .bool b=>match b,want with | true,true | false,false=>k true | _,_=>k false
    | _=>k false
   | none=>k false
  | none=>k false
noncomputable def KO (E:Env) (ops:Array Oper) (o:Oper) (A:aO) (Sz:St) (k:aO->St->Bool):Bool:=
 uB ops o A fun b=>dN b (rP E o A Sz fun v Sz=>iE A o.dst v fun A=>k A Sz) (iE A o.dst undef fun A=>k A Sz)
noncomputable def IZ (E:Env) (ops:Array Oper) (l:List Oper) (A:aO) (Sz:St) (k:aO->St->Bool):Bool:=
 eH (β:=aO->St->Bool) (fun A Sz=>k A Sz) (fun o _ ih A Sz=>KO E ops o A Sz ih) l A Sz
abbrev KP:=qZ->aO->St->Bool
noncomputable def Nf (body:aO->St->KP->Bool) (most:Nat) (A:aO) (Sz:St) (K:KP):Bool:=
 AJ (β:=aO->St->Bool) (fun _ _=>false) (fun _ ih A Sz=>body A Sz fun e A Sz=>match e with | .normal=>ih A Sz | e=>K e A Sz) most A Sz
noncomputable def KQ (E:Env) (r:Option Nat) (f:Operand) (params:Array Tmp) (assign body:Code) (A:aO) (Sz:St) (K:KP):Bool:=
 oN A f fun f=>match f with
  | .func (.func g) first captured=>
   let go (A:aO) (Sz:St):Bool:=sH Sz (.loop A.tmps params.toList assign body .ready none) fun l Sz=>
    wP first.toList [.func (.yield l) #[] #[]] fun as=>wP as captured.toList fun as=>E.call g as Sz fun _ Sz=>
     nY Sz.h l fun o=>match o with
      | .loop tm ps as bo st pe=>match st with
       | .busy=>false
       | _=>mS Sz l (.loop tm ps as bo .exhausted pe) fun Sz=>match pe with
        | none=>K .normal A Sz
        | some .ret=>K .ret A Sz
        | some (.exit id)=>K (.exit id) A Sz
        | _=>false
      | _=>false
   match r with
   | some l=>nY Sz.h l fun o=>match o with | .loop _ _ _ _ _ _=>go A Sz | _=>false
   | none=>sH Sz .defers fun d Sz=>go ⟨A.tmps,d::A.marks,A.g⟩ Sz
  | _=>false
noncomputable def pY (E:Env) (dr:Array Oper->aO->St->(aO->St->Bool)->Bool) (r:Option Nat) (c:Code):aO->St->KP->Bool:=
 aFg (β:=aO->St->KP->Bool)
  (fun A Sz K=>K .normal A Sz)
  (fun ops draw A Sz K=>dN draw (dr ops A Sz fun A Sz=>K .normal A Sz) (IZ E ops ops.toList A Sz fun A Sz=>K .normal A Sz))
  (fun ha hb A Sz K=>ha A Sz fun e A Sz=>match e with | .normal=>hb A Sz K | e=>K e A Sz)
  (fun c ha hb A Sz K=>oN A c fun v=>match v with | .bool b=>dN b (ha A Sz K) (hb A Sz K) | _=>false)
  (fun id h A Sz K=>h A Sz fun e A Sz=>match e with
   | .exit i=>match Nat.beq i id with | true=>K .normal A Sz | false=>K (.exit i) A Sz
   | e=>K e A Sz)
  (fun h A Sz K=>Nf h E.most A Sz K)
  (fun h A Sz K=>h A Sz K)
  (fun f params assign body A Sz K=>KQ E r f params assign body A Sz K)
  (fun id A Sz K=>K (.exit id) A Sz)
  (fun A Sz K=>K .normal A Sz)
  (fun A Sz K=>K .ret A Sz)
  (fun _ _ _=>false) c
noncomputable def BO (l:List Nat) (Sz:St) (k:St->Bool):Bool:=
 eH (β:=St->Bool) (fun Sz=>k Sz) (fun d _ ih Sz=>nY Sz.h d fun o=>match o with | .defers=>mS Sz d .dead ih | _=>false) l Sz
noncomputable def mV (P:Program) (rs:List ResultVar) (A:aO) (Sz:St) (k:List Value->Bool):Bool:=
 eH (β:=(List Value->Bool)->Bool) (fun k=>k []) (fun x _ ih k=>match x with
  | .tmp t=>IA A.tmps t fun v=>ih fun vs=>k (v::vs)
  | .cell a t=>IA A.tmps a fun a=>BV P t a Sz fun v _=>ih fun vs=>k (v::vs)) rs k
noncomputable def KT (E:Env) (dr:Array Oper->aO->St->(aO->St->Bool)->Bool) (f:FuncId) (args:List Value) (Sz:St) (K:VK):Bool:=
 match E.P.funcs[f]? with
 | some fn=>match fn.body with
  | some c=>bA fn.ntmps fun n=>Nc n args fun ts=>pY E dr none c ⟨ts,[],E.P.globals.size⟩ Sz fun e A Sz=>
   match e with
   | .exit _=>false
   | _=>BO A.marks Sz fun Sz=>mV E.P fn.results.toList A Sz fun vs=>match vs with | [v]=>K v Sz | vs=>K (.tuple ⟨vs⟩) Sz
  | none=>false
 | none=>false
noncomputable def OR (E:Env) (dr:Array Oper->aO->St->(aO->St->Bool)->Bool) (l:Nat) (args:List Value) (Sz:St) (K:VK):Bool:=
 nY Sz.h l fun o=>match o with
  | .loop tmps params assign body _ _=>
   let laid:List Tmp->List Value->Tm->(Tm->Bool)->Bool:=fun ps=>eH (β:=List Value->Tm->(Tm->Bool)->Bool)
    (fun as ts k=>match as with | []=>k ts | _=>false) (fun p _ ih as ts k=>match as with | a::as=>nQ a ts p fun ts=>ih as ts k | []=>false) ps
   laid params args tmps fun ts=>pY E dr (some l) assign ⟨ts,[],E.P.globals.size⟩ Sz fun e A Sz=>match e with
    | .normal=>nY Sz.h l fun o=>match o with
     | .loop tm ps as bo .ready pe=>mS Sz l (.loop tm ps as bo .busy pe) fun Sz=>pY E dr (some l) body A Sz fun e _ Sz=>
      nY Sz.h l fun o=>match o with
       | .loop tm ps as bo _ _=>match e with
        | .normal=>mS Sz l (.loop tm ps as bo .ready none) fun Sz=>K (.bool true) Sz
        | .ret=>mS Sz l (.loop tm ps as bo .done (some .ret)) fun Sz=>K (.bool false) Sz
        | .exit id=>mS Sz l (.loop tm ps as bo .done (some (.exit id))) fun Sz=>K (.bool false) Sz
       | _=>false
     | _=>false
    | _=>false
  | _=>false
noncomputable def env (P:Program) (ov:FuncId->Option (List Value->St->VK->Bool)) (dr:Env->Array Oper->aO->St->(aO->St->Bool)->Bool) (most:Nat) (n:Nat):Env:=
 AJ (β:=Env) {P,ov,call:=fun _ _ _ _=>false,round:=fun _ _ _ _=>false,most}
  (fun _ E=>{P,ov,call:=fun f args Sz K=>match ov f with | some g=>g args Sz K | none=>KT E (dr E) f args Sz K,round:=fun l args Sz K=>OR E (dr E) l args Sz K,most}) n
section comb
variable{α β:Type}
theorem yY (z:β) (s:Nat->β):kK 0 z s=z:=rfl
theorem TP (n:Nat) (z:β) (s:Nat->β):kK (n+1) z s=s n:=rfl
theorem oO (z:β) (s:α->List α->β->β):eH z s []=z:=rfl
theorem aW (a:α) (l:List α) (z:β) (s:α->List α->β->β):eH z s (a::l)=s a l (eH z s l):=rfl
theorem YJ (z:β) (s:Nat->β->β):AJ z s 0=z:=rfl
theorem Qo (n:Nat) (z:β) (s:Nat->β->β):AJ z s (n+1)=s n (AJ z s n):=rfl
theorem aT (n:Nat) (k:Nat->Bool):bA n k=k n:=by cases n<;>rfl
theorem jA (n:Int) (k:Int->Bool):tY n k=k n:=by cases n<;>simp [tY,aCQ,aT]
theorem kH (b:Bool) (k:Bool->Bool):KJ b k=k b:=by cases b<;>rfl
theorem mO (t:Tr α) (n:Nat) (k:α->Bool):nY t n k=match t.get n with | some x=>k x | none=>false:=by
 induction t generalizing n with
 | leaf=>rfl
 | node v l r ihl ihr=>
  cases n with
  | zero=>cases v<;>rfl
  | succ p=>
   have hd:nY (.node v l r) (p+1) k=(kK (Nat.mod p 2) (nY l (Nat.div p 2) k) fun _=>nY r (Nat.div p 2) k):=rfl;rw [hd];have hm:p%2=0\/p%2=1:=by omega
   rcases hm with hm | hm
   ·have:Nat.mod p 2=0:=hm
    rw [this,yY,ihl];have e1:(p+1) / 2=Nat.div p 2:=by show _=p / 2;omega
    simp only [Tr.get,Nat.add_eq_zero_iff,Nat.one_ne_zero,and_false,if_false,show(p+1)%2=1 by omega,if_true,e1]
   ·have:Nat.mod p 2=1:=hm
    rw [this];show nY r (Nat.div p 2) k=_;rw [ihr];have e1:(p+1) / 2-1=Nat.div p 2:=by show _=p / 2;omega
    simp only [Tr.get,Nat.add_eq_zero_iff,Nat.one_ne_zero,and_false,if_false,show ¬(p+1)%2=1 by omega,e1]
theorem DQ (x:α):∀(f:Nat) (t:Tr α) (n:Nat) (k:Tr α->Bool),IX x f t n k=k (Tr.yC x f t n):=by
 intro f;induction f with
 | zero=>intro t n k;rfl
 | succ f ih=>
  intro t n k
  have hs:IX x (f+1) t n k=tcase t
   (kK n (k (.node (some x) .leaf .leaf)) fun p=>kK (Nat.mod p 2) (IX x f .leaf (Nat.div p 2) fun c=>k (.node none c .leaf)) fun _=>IX x f .leaf (Nat.div p 2) fun c=>k (.node none .leaf c))
   (fun v l r=>kK n (k (.node (some x) l r)) fun p=>kK (Nat.mod p 2) (IX x f l (Nat.div p 2) fun c=>k (.node v c r)) fun _=>IX x f r (Nat.div p 2) fun c=>k (.node v l c)):=rfl
  rw [hs];cases t with
  | leaf=>
   cases n with
   | zero=>simp [tcase,Tr.yC,yY]
   | succ p=>
    show(kK (Nat.mod p 2) _ fun _=>_)=_;have hm:p%2=0\/p%2=1:=by omega
    rcases hm with hm | hm
    ·have h0:Nat.mod p 2=0:=hm
     rw [h0,yY,ih];have e1:(p+1) / 2=Nat.div p 2:=by show _=p / 2;omega
     simp [Tr.yC,show(p+1)%2=1 by omega,e1]
    ·have h0:Nat.mod p 2=0+1:=hm
     rw [h0,TP,ih];have e1:(p+1) / 2-1=Nat.div p 2:=by show _=p / 2;omega
     simp [Tr.yC,show ¬(p+1)%2=1 by omega,e1]
  | node v l r=>
   cases n with
   | zero=>simp [tcase,Tr.yC,yY]
   | succ p=>
    show(kK (Nat.mod p 2) _ fun _=>_)=_;have hm:p%2=0\/p%2=1:=by omega
    rcases hm with hm | hm
    ·have h0:Nat.mod p 2=0:=hm
     rw [h0,yY,ih];have e1:(p+1) / 2=Nat.div p 2:=by show _=p / 2;omega
     simp [Tr.yC,show(p+1)%2=1 by omega,e1]
    ·have h0:Nat.mod p 2=0+1:=hm
     rw [h0,TP,ih];have e1:(p+1) / 2-1=Nat.div p 2:=by show _=p / 2;omega
     simp [Tr.yC,show ¬(p+1)%2=1 by omega,e1]
theorem TQ (x:α):∀(f:Nat) (t:Tr α) (n m:Nat),n<f->(Tr.yC x f t n).get m=if m=n then some x else t.get m:=by
 intro f;induction f with
 | zero=>intro t n m h;omega
 | succ f ih=>
  intro t n m h;have hl:∀m,(Tr.leaf:Tr α).get m=none:=fun m=>rfl;cases t with
  | leaf=>
   simp only [Tr.yC];by_cases h0:n=0
   ·subst h0
    by_cases hm:m=0<;>simp [Tr.get,hm]
   ·by_cases h1:n%2=1
    ·simp only [h0,h1,if_true,if_false,Tr.get]
     by_cases hm:m=0
     ·subst hm;simp [Ne.symm h0]
     ·by_cases h2:m%2=1
      ·rw [if_neg hm,if_pos h2,ih _ _ _ (by omega)]
       by_cases e:m=n
       ·subst e;simp
       ·rw [if_neg e,if_neg (by omega),hl]
      ·rw [if_neg hm,if_neg h2,if_neg (by omega)]
    ·simp only [h0,h1,if_false,Tr.get]
     by_cases hm:m=0
     ·subst hm;simp [Ne.symm h0]
     ·by_cases h2:m%2=1
      ·rw [if_neg hm,if_pos h2,if_neg (by omega)]
      ·rw [if_neg hm,if_neg h2,ih _ _ _ (by omega)]
       by_cases e:m=n
       ·subst e;simp
       ·rw [if_neg e,if_neg (by omega),hl]
  | node v l r=>
   simp only [Tr.yC];by_cases h0:n=0
   ·subst h0
    by_cases hm:m=0<;>simp [Tr.get,hm]
   ·by_cases h1:n%2=1
    ·simp only [h0,h1,if_true,if_false,Tr.get]
     by_cases hm:m=0
     ·subst hm;simp [Ne.symm h0]
     ·by_cases h2:m%2=1
      ·rw [if_neg hm,if_pos h2,ih _ _ _ (by omega)]
       by_cases e:m=n
       ·subst e;simp
       ·rw [if_neg e,if_neg (by omega),if_neg hm,if_pos h2]
      ·rw [if_neg hm,if_neg h2,if_neg (by omega),if_neg hm,if_neg h2]
    ·simp only [h0,h1,if_false,Tr.get]
     by_cases hm:m=0
     ·subst hm;simp [Ne.symm h0]
     ·by_cases h2:m%2=1
      ·rw [if_neg hm,if_pos h2,if_neg (by omega),if_neg hm,if_pos h2]
      ·rw [if_neg hm,if_neg h2,ih _ _ _ (by omega)]
       by_cases e:m=n
       ·subst e;simp
       ·rw [if_neg e,if_neg (by omega),if_neg hm,if_neg h2]
theorem get_put (t:Tr α) (n:Nat) (x:α) (m:Nat):(t.put n x).get m=if m=n then some x else t.get m:=TQ x _ t n m (Nat.lt_succ_self n)
theorem aA9 (l:List α) (i:Nat) (k:α->Bool):IY l i k=match l[i]? with | some a=>k a | none=>false:=by
 induction l generalizing i with
 | nil=>rfl
 | cons a l ih=>
  cases i with
  | zero=>rfl
  | succ i=>exact(ih i).trans (by simp)
theorem TL (v:α) (l:List α) (i:Nat) (k:List α->Bool):Nb v l i k=k (l.set i v):=by
 induction l generalizing i k with
 | nil=>rfl
 | cons a l ih=>
  cases i with
  | zero=>rfl
  | succ i=>exact ih i _
theorem Ng (l:List α) (k:List α->Bool):aA4 l k=k l:=by
 induction l generalizing k with
 | nil=>rfl
 | cons a l ih=>exact ih _
theorem jB (l m:List α) (k:List α->Bool):wP l m k=k (l++m):=by
 induction l generalizing k with
 | nil=>rfl
 | cons a l ih=>exact ih _
theorem wQ (n:Nat) (l:List α) (k:List α->Bool):FU n l k=if n<=l.length then k (l.take n)else false:=by
 induction n generalizing l k with
 | zero=>simp [FU,YJ]
 | succ n ih=>
  cases l with
  | nil=>rfl
  | cons a l=>
   show FU n l (fun t'=>k (a::t'))=_;rw [ih];simp
theorem uE (n:Nat) (l:List α) (k:List α->Bool):AQ n l k=if n<=l.length then k (l.drop n)else false:=by
 induction n generalizing l with
 | zero=>simp [AQ,YJ]
 | succ n ih=>
  cases l with
  | nil=>rfl
  | cons a l=>
   show AQ n l k=_;rw [ih];simp
def splice (off:Nat) (new l:List α):List α:=l.take off++new++l.drop (off+new.length)
theorem Ut (new l:List α) (k:List α->Bool):Ej new l k=if new.length<=l.length then k (new++l.drop new.length)else false:=by
 induction new generalizing l k with
 | nil=>simp [Ej,oO]
 | cons a new ih=>
  cases l with
  | nil=>rfl
  | cons b l=>
   show Ej new l (fun t'=>k (a::t'))=_;rw [ih];simp
theorem sI (off:Nat) (new l:List α) (k:List α->Bool):mM off new l k=if off+new.length<=l.length then k (splice off new l)else false:=by
 induction off generalizing l k with
 | zero=>
  show Ej new l k=_;rw [Ut];simp [splice]
 | succ off ih=>
  cases l with
  | nil=>show false=_;rw [if_neg (by simp)]
  | cons b l=>
   show mM off new l (fun t'=>k (b::t'))=_;rw [ih];have:off+1+new.length<=(b::l).length↔off+new.length<=l.length:=by simp;omega
   simp only [this];have e:splice (off+1) new (b::l)=b::splice off new l:=by simp [splice,show off+1+new.length=(off+new.length)+1 by omega]
   rw [e]
theorem wJ (off:Nat) (new l:List α) (h:off+new.length<=l.length):(splice off new l).length=l.length:=by simp [splice];omega
theorem oA (off:Nat) (new l:List α) (h:off+new.length<=l.length) (j:Nat):
 (splice off new l)[j]? =if off<=j/\j<off+new.length then new[j-off]? else l[j]? :=by
 unfold splice;by_cases h1:j<off
 ·rw [if_neg (by omega),List.append_assoc,List.getElem?_append_left (by simp;omega),List.getElem?_take,if_pos h1]
 ·by_cases h2:j<off+new.length
  ·rw [if_pos (by omega),List.append_assoc,List.getElem?_append_right (by simp;omega),List.getElem?_append_left (by simp;omega)]
   congr 1;simp;omega
  ·rw [if_neg (by omega),List.getElem?_append_right (by simp;omega),List.getElem?_drop]
   congr 1;simp;omega
theorem jS (l:List α) (k:Nat->Bool):yT l k=k l.length:=by
 have h:∀(l:List α) (n:Nat),eH (β:=Nat->Bool) (fun n=>k n) (fun _ _ ih n=>bA (Nat.succ n) ih) l n=k (n+l.length):=by
  intro l;induction l with
  | nil=>intro n;rfl
  | cons a l ih=>
   intro n;rw [aW,aT,ih]
   congr 1;simp;omega
 unfold yT;rw [h,Nat.zero_add]
theorem wK (z:List α) (n:Nat) (k:List α->Bool):Ek z n k=k (List.replicate n z).flatten:=by
 have h:∀(n:Nat) (acc:List α),AJ (β:=List α->Bool) (fun acc=>k acc) (fun _ ih acc=>wP z acc ih) n acc=k ((List.replicate n z).flatten++acc):=by
  intro n;induction n with
  | zero=>intro acc;rfl
  | succ n ih=>
   intro acc;rw [Qo,jB,ih]
   have:(List.replicate n z).flatten++(z++acc)=(List.replicate (n+1) z).flatten++acc:=by
    rw [List.replicate_succ',List.flatten_append];simp
   rw [this]
 unfold Ek;rw [h,List.append_nil]
theorem jT (f:α->Bool) (l:List α):allB f l=l.all f:=by
 induction l with
 | nil=>rfl
 | cons a l ih=>
  show dN (f a) (allB f l) false=_;cases h:f a<;>simp [dN,h,ih]
theorem Qn (l:List α) (i:Nat) (k:List α->Bool):Uk l i k=k (l.eraseIdx i):=by
 induction l generalizing i k with
 | nil=>rfl
 | cons a l ih=>
  cases i with
  | zero=>rfl
  | succ i=>exact ih i _
end comb
theorem Ew (l:List Nat) (h:Tr fD) (k:Tr fD->Bool):YC l h k=k (l.foldl (fun h i=>h.put i .dead) h):=by
 induction l generalizing h with
 | nil=>rfl
 | cons i l ih=>
  show IX .dead (Nat.succ i) h i (fun h=>YC l h k)=_;rw [DQ,ih];rfl
theorem Ex (l:List Nat) (h:Tr fD) (m:Nat):(l.foldl (fun h i=>h.put i fD.dead) h).get m=if m∈l then some .dead else h.get m:=by
 induction l generalizing h with
 | nil=>simp
 | cons i l ih=>
  rw [List.foldl_cons,ih,get_put];by_cases h1:m∈l
  ·simp [h1]
  ·by_cases h2:m=i
   ·simp [h2]
   ·simp [h1,h2]
def St.set (Sz:St) (i:Nat) (o:fD):St:=⟨Sz.h.put i o,Sz.n⟩
def St.new (Sz:St) (o:fD):St:=⟨Sz.h.put Sz.n o,Sz.n+1⟩
def St.obj (Sz:St) (i:Nat):Option fD:=Sz.h.get i
theorem wL (Sz:St) (i:Nat) (o:fD) (j:Nat):(Sz.set i o).obj j=if j=i then some o else Sz.obj j:=get_put _ _ _ _
theorem IE (Sz:St) (o:fD) (j:Nat):(Sz.new o).obj j=if j=Sz.n then some o else Sz.obj j:=get_put _ _ _ _
theorem fO (Sz:St) (o:fD) (k:Nat->St->Bool):sH Sz o k=k Sz.n (Sz.new o):=by simp [sH,DQ,aT,St.new,Tr.put]
theorem eQ (Sz:St) (i:Nat) (o:fD) (k:St->Bool):mS Sz i o k=k (Sz.set i o):=by simp [mS,DQ,St.set,Tr.put]
theorem wS{Sz:St}{i:Nat}{k:List Value->TypeId->CK->Bool} (h:tZ Sz i k=true):∃vs e c,Sz.obj i=some (.cells vs e c)/\k vs e c=true:=by
 unfold tZ at h;rw [mO]at h;cases ho:Sz.h.get i with
 | none=>simp [ho]at h
 | some o=>cases o<;>simp [ho]at h;exact⟨_,_,_,ho,h⟩
theorem vS{Sz:St}{i off n:Nat}{k:List Value->Bool} (h:BU Sz i off n k=true):
 ∃vs e c,Sz.obj i=some (.cells vs e c)/\off+n<=vs.length/\k ((vs.drop off).take n)=true:=by
 obtain⟨vs,e,c,ho,h⟩:=wS h;rw [uE]at h;split at h
 ·rw [wQ]at h
  split at h
  ·rename_i h1 h2
   exact⟨vs,e,c,ho,by simp at h2;omega,h⟩
  ·simp at h
 ·simp at h
theorem BZ{α:Type}{l:List α}{i:Nat}{k:α->Bool} (h:IY l i k=true):∃a,l[i]? =some a/\k a=true:=by
 rw [aA9]at h;cases ha:l[i]? with
 | none=>simp [ha]at h
 | some a=>exact⟨a,rfl,by simpa [ha]using h⟩
theorem wT{T:Tm}{i:Nat}{k:Value->Bool} (h:IA T i k=true):∃v,T.t.get i=some v/\k v=true:=by
 unfold IA at h;rw [mO]at h;cases hx:T.t.get i with
 | none=>rw [hx]at h;cases h
 | some x=>rw [hx]at h;exact⟨x,rfl,h⟩
def Tm.put (T:Tm) (i:Nat) (v:Value):Tm:=⟨T.t.put i v,T.n⟩
theorem vT{v:Value}{T:Tm}{i:Nat}{k:Tm->Bool} (h:nQ v T i k=true):i<T.n/\k (T.put i v)=true:=by
 unfold nQ at h;split at h
 ·rename_i hb
  rw [DQ]at h;exact⟨Nat.le_of_ble_eq_true hb,h⟩
 ·cases h
theorem Uu{A:aO}{x:Operand}{k:Value->Bool} (h:oN A x k=true):
 ∃v,k v=true/\((∃t,x= .tmp t/\A.tmps.t.get t=some v)\/(x= .const v/\fX v=true)\/(∃g,x= .global g/\g<A.g/\v= .pointer (some ⟨g,0,none⟩))\/(∃f,x= .func f/\v= .func (.func f) #[] #[])):=by
 cases x with
 | tmp t=>obtain⟨a,ha,hk⟩:=wT h;exact⟨a,hk,.inl ⟨t,rfl,ha⟩⟩
 | const v=>
  cases hf:fX v with
  | true=>exact⟨v,by simpa [oN,hf]using h,.inr (.inl ⟨rfl,hf⟩)⟩
  | false=>simp [oN,hf]at h
 | global g=>
  cases hg:Nat.blt g A.g with
  | true=>exact⟨_,by simpa [oN,hg]using h,.inr (.inr (.inl ⟨g,rfl,Nat.le_of_ble_eq_true hg,rfl⟩))⟩
  | false=>simp [oN,hg]at h
 | func f=>exact⟨_,h,.inr (.inr (.inr ⟨f,rfl,rfl⟩))⟩
end Go.Am
namespace Go.Am
open Go.RowKit
structure Loc where
 b:Nat
 s:Nat
 e:Nat
 m:Nat
abbrev Rn:=Nat->Option Loc
inductive VR (U:Rn):Value->Value->Prop
 | flat {v:Value} (h:aY v=true):VR U v v
 | ptr {i o:Nat} {L:Loc} (h:U i=some L):VR U (.pointer (some ⟨i,o,none⟩)) (.pointer (some ⟨L.b,L.s+o,none⟩))
 | slice {i o n c:Nat} {L:Loc} (h:U i=some L):VR U (.slice (some ⟨i,o,none⟩) n c) (.slice (some ⟨L.b,L.s+o,none⟩) n c)
 | mN {i o n c c':Nat} {L:Loc} (h:U i=some L) (hc:c<=c') (hn:n<=c) (he:L.s+o+c'*L.m=L.e) (hm:0<L.m):VR U (.slice (some ⟨i,o,some 0⟩) n c) (.slice (some ⟨L.b,L.s+o,none⟩) n c')
 | uC {i c':Nat} {a:Addr}:VR U (.slice (some ⟨i,0,some 1⟩) 0 0) (.slice (some a) 0 c')
 | uD {b o s:Nat} {sp:Option Nat} (hs:sp=match s with | 0=>none | k+1=>some k):VR U (.slice (some ⟨b,o,some (s+2)⟩) 0 0) (.slice (some ⟨b,o,sp⟩) 0 0)
 | map {i:Nat} {L:Loc} (h:U i=some L):VR U (.map (some i)) (.map (some L.b))
 | func {f:FuncId} {a a' c c':Array Value} (ha:a.size=a'.size) (hc:c.size=c'.size) (h1:∀(k:Nat) (v v':Value),a.toList[k]? =some v->a'.toList[k]? =some v'->VR U v v')
  (h2:∀(k:Nat) (v v':Value),c.toList[k]? =some v->c'.toList[k]? =some v'->VR U v v'):VR U (.func (.func f) a c) (.func (.func f) a' c')
 | yield {l:Nat} {L:Loc} (h:U l=some L):VR U (.func (.yield l) #[] #[]) (.func (.yield L.b) #[] #[])
 | meth {s:String} {v v':Value} (h:VR U v v'):VR U (.func (.method s) ⟨[v]⟩ ⟨[]⟩) (.func (.method s) ⟨[v']⟩ ⟨[]⟩)
 | iface {t:TypeId} {v v':Value} (h:VR U v v'):VR U (.iface t v) (.iface t v')
 | agg {a a':Array Value} (ha:a.size=a'.size) (h1:∀(k:Nat) (v v':Value),a.toList[k]? =some v->a'.toList[k]? =some v'->VR U v v'):VR U (.agg a) (.agg a')
 | tuple {a a':Array Value} (ha:a.size=a'.size) (h1:∀(k:Nat) (v v':Value),a.toList[k]? =some v->a'.toList[k]? =some v'->VR U v v'):VR U (.tuple a) (.tuple a')
def gW (U:Rn) (l l':List Value):Prop:=l.length=l'.length/\∀(k:Nat) (v v':Value),l[k]? =some v->l'[k]? =some v'->VR U v v'
def Fa (U:Rn) (T:Tm) (l':List Value):Prop:=T.n=l'.length/\∀(k:Nat) (v:Value),T.t.get k=some v->∃v',l'[k]? =some v'/\VR U v v'
theorem Fa.get{U:Rn}{T:Tm}{l':List Value} (h:Fa U T l'){k:Nat}{v:Value} (hv:T.t.get k=some v):∃v',l'[k]? =some v'/\VR U v v':=h.2 k v hv
theorem Fa.set{U:Rn}{T:Tm}{l':List Value} (h:Fa U T l'){i:Nat} (hi:i<T.n){v v':Value} (hv:VR U v v'):Fa U (T.put i v) (l'.set i v'):=by
 refine⟨by simpa [Tm.put]using h.1,fun k x hx=>?_⟩;have hx:(T.t.put i v).get k=some x:=hx;rw [get_put]at hx;have hl:i<l'.length:=by rw [<-h.1];exact hi
 by_cases e:k=i
 ·subst e
  rw [if_pos rfl]at hx;injection hx with hx;subst hx;exact⟨v',by simp [hl],hv⟩
 ·rw [if_neg e]at hx
  obtain⟨y,hy,hr⟩:=h.2 k x hx;exact⟨y,by rw [List.getElem?_set_ne (Ne.symm e)];exact hy,hr⟩
def Ext (U U':Rn):Prop:=∀i L,U i=some L->U' i=some L
theorem Ext.refl (U:Rn):Ext U U:=fun _ _ h=>h
theorem Ext.trans{a b c:Rn} (h:Ext a b) (k:Ext b c):Ext a c:=fun i L e=>k i L (h i L e)
theorem VR.mono{U U':Rn} (he:Ext U U'){v v':Value} (h:VR U v v'):VR U' v v':=by
 induction h with
 | flat h=>exact .flat h
 | ptr h=>exact .ptr (he _ _ h)
 | slice h=>exact .slice (he _ _ h)
 | mN h hc hn hh hm=>exact .mN (he _ _ h) hc hn hh hm
 | uC=>exact .uC
 | uD hs=>exact .uD hs
 | map h=>exact .map (he _ _ h)
 | func ha hc _ _ i1 i2=>exact .func ha hc i1 i2
 | yield h=>exact .yield (he _ _ h)
 | meth _ ih=>exact .meth ih
 | iface _ ih=>exact .iface ih
 | agg ha _ ih=>exact .agg ha ih
 | tuple ha _ ih=>exact .tuple ha ih
theorem gW.mono{U U':Rn} (he:Ext U U'){l l':List Value} (h:gW U l l'):gW U' l l':=⟨h.1,fun k v v' a b=>(h.2 k v v' a b).mono he⟩
theorem Fa.mono{U U':Rn} (he:Ext U U'){T:Tm}{l':List Value} (h:Fa U T l'):Fa U' T l':=⟨h.1,fun k v hv=>let⟨v',a,b⟩:=h.2 k v hv;⟨v',a,b.mono he⟩⟩
theorem gW.nil (U:Rn):gW U [] []:=⟨rfl,by simp⟩
theorem gW.cons{U:Rn}{v v':Value}{l l':List Value} (h:VR U v v') (t:gW U l l'):gW U (v::l) (v'::l'):=by
 refine⟨by simp [t.1],fun k x x' a b=>?_⟩;cases k with
 | zero=>simp at a b;subst a b;exact h
 | succ k=>simp at a b;exact t.2 k x x' a b
theorem gW.head{U:Rn}{v v':Value}{l l':List Value} (h:gW U (v::l) (v'::l')):VR U v v':=h.2 0 v v' rfl rfl
theorem gW.tail{U:Rn}{v v':Value}{l l':List Value} (h:gW U (v::l) (v'::l')):gW U l l':=
 ⟨by simpa using h.1,fun k x x' a b=>h.2 (k+1) x x' (by simpa using a) (by simpa using b)⟩
theorem gW.iR{U:Rn}{l':List Value} (h:gW U [] l'):l'=[]:=List.eq_nil_of_length_eq_zero (by simpa using h.1.symm)
theorem gW.cI{U:Rn}{v:Value}{l l':List Value} (h:gW U (v::l) l'):∃v' t',l'=v'::t'/\VR U v v'/\gW U l t':=by
 cases l' with
 | nil=>have:=h.1;simp at this
 | cons v' t'=>exact⟨v',t',rfl,h.head,h.tail⟩
theorem gW.get{U:Rn}{l l':List Value} (h:gW U l l'){k:Nat}{v:Value} (hv:l[k]? =some v):∃v',l'[k]? =some v'/\VR U v v':=by
 have hk:k<l'.length:=by rw [<-h.1];exact(List.getElem?_eq_some_iff.1 hv).1
 exact⟨l'[k],List.getElem?_eq_getElem hk,h.2 k v _ hv (List.getElem?_eq_getElem hk)⟩
theorem gW.get_none{U:Rn}{l l':List Value} (h:gW U l l'){k:Nat} (hv:l[k]? =none):l'[k]? =none:=by
 rw [List.getElem?_eq_none_iff]at*;rw [<-h.1];exact hv
theorem gW.append{U:Rn}{l l' m m':List Value} (h:gW U l l') (k:gW U m m'):gW U (l++m) (l'++m'):=by
 refine⟨by simp [h.1,k.1],fun j v v' a b=>?_⟩;by_cases hj:j<l.length
 ·rw [List.getElem?_append_left hj]at a
  rw [List.getElem?_append_left (by rw [<-h.1];exact hj)]at b;exact h.2 j v v' a b
 ·rw [List.getElem?_append_right (by omega)]at a
  rw [List.getElem?_append_right (by rw [<-h.1];omega),<-h.1]at b;exact k.2 _ v v' a b
theorem gW.take{U:Rn}{l l':List Value} (h:gW U l l') (n:Nat):gW U (l.take n) (l'.take n):=by
 refine⟨by simp [h.1],fun j v v' a b=>?_⟩;rw [List.getElem?_take]at a b;split at a
 ·rename_i hj;rw [if_pos hj]at b;exact h.2 j v v' a b
 ·simp at a
theorem gW.drop{U:Rn}{l l':List Value} (h:gW U l l') (n:Nat):gW U (l.drop n) (l'.drop n):=by
 refine⟨by simp [h.1],fun j v v' a b=>?_⟩;rw [List.getElem?_drop]at a b;exact h.2 _ v v' a b
theorem gW.splice{U:Rn}{l l' n n':List Value} (h:gW U l l') (k:gW U n n') (off:Nat):gW U (splice off n l) (splice off n' l'):=by
 unfold Am.splice;rw [<-k.1];exact((h.take off).append k).append (h.drop _)
theorem gW.flat{U:Rn}{l:List Value} (h:∀v∈l,aY v=true):gW U l l:=
 ⟨rfl,fun k v v' a b=>by rw [a]at b;injection b with b;subst b;exact .flat (h v (List.mem_of_getElem? a))⟩
theorem gW.flatten{U:Rn}{z z':List Value} (h:gW U z z') (n:Nat):gW U (List.replicate n z).flatten (List.replicate n z').flatten:=by
 induction n with
 | zero=>exact .nil U
 | succ n ih=>simp only [List.replicate_succ,List.flatten_cons];exact h.append ih
theorem VR.fX{U:Rn}{v:Value} (h:fX v=true):VR U v v:=by
 cases v<;>first
  | exact .flat h
  | (rename_i cs;exact .agg rfl (gW.flat (U:=U) (List.all_eq_true.1 h)).2)
theorem VR.of_flat{U:Rn}{v v':Value} (h:VR U v v') (hf:aY v=true):v'=v:=by
 cases h<;>first | rfl | simp [aY]at hf
theorem VR.AS{U:Rn}{a:Array Value}{v':Value} (h:VR U (.agg a) v'):∃a',v'= .agg a'/\gW U a.toList a'.toList:=by
 cases h with
 | flat h=>simp [aY]at h
 | agg ha h1=>exact⟨_,rfl,by simpa using ha,h1⟩
theorem VR.CD{U:Rn}{a:Array Value}{v':Value} (h:VR U (.tuple a) v'):∃a',v'= .tuple a'/\gW U a.toList a'.toList:=by
 cases h with
 | flat h=>simp [aY]at h
 | tuple ha h1=>exact⟨_,rfl,by simpa using ha,h1⟩
theorem VR.Aq{U:Rn}{a a':Array Value} (h:gW U a.toList a'.toList):VR U (.agg a) (.agg a'):= .agg (by simpa using h.1) h.2
theorem VR.kN{U:Rn}{a a':Array Value} (h:gW U a.toList a'.toList):VR U (.tuple a) (.tuple a'):= .tuple (by simpa using h.1) h.2
theorem VR.Up{U:Rn}{v v':Value} (h:VR U v v') (hf:Am.fX v=true):v'=v:=by
 by_cases ha:∃a,v= .agg a
 ·obtain⟨a,rfl⟩:=ha
  obtain⟨a',rfl,hl⟩:=h.AS;have hfl:∀x∈a.toList,aY x=true:=List.all_eq_true.1 hf
  have:a'.toList=a.toList:=by
   apply List.ext_getElem?;intro k;cases hk:a.toList[k]? with
   | none=>exact hl.get_none hk
   | some x=>
    obtain⟨x',hx',hr⟩:=hl.get hk;rw [hx',hr.of_flat (hfl x (List.mem_of_getElem? hk))]
  rw [Array.toList_inj.1 this]
 ·refine h.of_flat ?_
  cases v<;>first | exact hf | (exact absurd ⟨_,rfl⟩ ha)
theorem VR.oneCell{U:Rn}{v v':Value} (h:VR U v v') (ho:oneCell v=true):v'.oneCell'=true:=by
 cases h<;>first | rfl | (simp [Am.oneCell]at ho;done) | (rename_i h;revert ho;cases v<;>simp [Am.oneCell,Value.oneCell'])
section rel
variable (P:Program) (w0:World)
def TO (n:Nat) (fz:Nat×Nat):Prop:=∀x,x<n->¬(fz.1<=x/\x<fz.2)
def Be (L:Loc) (cs:Array Value) (n:Nat) (fz:Nat×Nat) (e t:TypeId):CK->Prop
 | .ro=>bL P e=some L.m
 | .rs=>bL P e=some L.m/\∀j,j<n->¬(fz.1<=L.s+j/\L.s+j<fz.2)
 | .exact=>w0.heap.size<=L.b/\L.s=0/\cs.size=n/\TO cs.size fz/\t=e
 | .grown _=>w0.heap.size<=L.b/\TO cs.size fz/\L.e=cs.size/\bL P e=some L.m/\t=e
 | .stale=>w0.heap.size<=L.b/\bL P e=some L.m/\t=e
def FZ (U:Rn) (e e':MapEntry):Prop:=e'.key=e.key/\fX e.key=true/\e'.born=e.born/\VR U e.val e'.val
def dZ (U:Rn) (l l':List MapEntry):Prop:=l.length=l'.length/\∀(k:Nat) (e e':MapEntry),l[k]? =some e->l'[k]? =some e'->FZ U e e'
def xN (U:Rn) (w:World) (i:Nat):fD->Prop
 | .dead=>True
 | .cells vs e k=>∃L cs t fz,U i=some L/\w.heap[L.b]? =some (.cells cs t fz)/\(∀(j:Nat) (v:Value),vs[j]? =some v->∃v',cs[L.s+j]? =some v'/\VR U v v')/\Be P w0 L cs vs.length fz e t k
 | .map es c=>∃L es',U i=some L/\w0.heap.size<=L.b/\w.heap[L.b]? =some (.map es' c)/\dZ U es es'.toList
 | .loop tmps params assign body st pe=>∃L r,U i=some L/\w0.heap.size<=L.b/\w.heap[L.b]? =some (.loop r)/\r.state=st/\r.pending=pe/\r.params.toList=params/\r.assign=assign/\r.body=body/\Fa U tmps r.tmps.toList
 | .defers=>∃L,U i=some L/\w0.heap.size<=L.b/\w.heap[L.b]? =some (.deferred (some []))
 | .iter none _ _ _=>∃L a b c,(U i=some L/\L.s=0)/\w0.heap.size<=L.b/\w.heap[L.b]? =some (.mapIter none a b c)
 | .iter (some r) since seen last=>∃L M,(U i=some L/\L.s=0)/\w0.heap.size<=L.b/\U r=some M/\w.heap[L.b]? =some (.mapIter (some M.b) since ⟨seen⟩ last)
def fD.sK:fD->Bool
 | .dead=>true
 | _=>false
def fD.reads:fD->Bool
 | .cells _ _ .ro | .cells _ _ .stale | .cells _ _ .rs=>true
 | _=>false
def fD.olds:fD->List Nat
 | .cells _ _ (.grown l)=>l
 | _=>[]
def Ur (i j:Nat) (a b:fD):Prop:=(a.reads=true/\b.reads=true)\/j∈a.olds\/i∈b.olds
def Et (U:Rn) (j:Nat) (vs:List Value) (i:Nat) (o:fD):Prop:=
 o= .dead\/∃ws e,o= .cells ws e .stale/\∀L M,U j=some L->U i=some M->M.b=L.b->M.s+ws.length<=L.s+vs.length
structure Rel (U:Rn) (Sz:St) (w:World):Prop where
 TM:∀g,g<P.globals.size->∃L,U g=some L/\L.b=g/\L.s=0
 BP:∀i o,Sz.obj i=some o->xN P w0 U w i o
 dom:∀i,Sz.n<=i->U i=none
 lt:∀i o,Sz.obj i=some o->i<Sz.n
 loc:∀i L,U i=some L->L.b<w.heap.size
 sep:∀i j a b L M,i≠j->Sz.obj i=some a->Sz.obj j=some b->a.sK=false->b.sK=false->U i=some L->U j=some M->L.b=M.b->Ur i j a b
 old:∀j vs e olds,Sz.obj j=some (.cells vs e (.grown olds))->∀i∈olds,i<Sz.n/\∀o,Sz.obj i=some o->Et U j vs i o
 base:Below w0.heap.size w0 w
end rel
theorem dZ.mono{U U':Rn} (he:Ext U U'){l l':List MapEntry} (h:dZ U l l'):dZ U' l l':=
 ⟨h.1,fun k e e' a b=>let⟨x,y,z,u⟩:=h.2 k e e' a b;⟨x,y,z,u.mono he⟩⟩
theorem xN.frame{P:Program}{w0:World}{U U':Rn}{w w':World}{i:Nat}{o:fD} (he:Ext U U') (hb:∀L,U i=some L->w'.heap[L.b]? =w.heap[L.b]?) (h:xN P w0 U w i o):xN P w0 U' w' i o:=by
 cases o with
 | dead=>trivial
 | cells vs e k=>
  obtain⟨L,cs,t,fz,h1,h2,h3,h4⟩:=h;exact⟨L,cs,t,fz,he _ _ h1,(hb L h1).trans h2,fun j v hj=>let⟨v',a,b⟩:=h3 j v hj;⟨v',a,b.mono he⟩,h4⟩
 | map es c=>
  obtain⟨L,es',h1,h2,h3,h4⟩:=h;exact⟨L,es',he _ _ h1,h2,(hb L h1).trans h3,h4.mono he⟩
 | loop tmps params assign body st pe=>
  obtain⟨L,r,h1,h2,h3,h4,h5,h6,h7,h8,h9⟩:=h;exact⟨L,r,he _ _ h1,h2,(hb L h1).trans h3,h4,h5,h6,h7,h8,h9.mono he⟩
 | defers=>
  obtain⟨L,h1,h2,h3⟩:=h;exact⟨L,he _ _ h1,h2,(hb L h1).trans h3⟩
 | iter m since seen last=>
  cases m with
  | none=>obtain⟨L,a,b,c,h1,h2,h3⟩:=h;exact⟨L,a,b,c,⟨he _ _ h1.1,h1.2⟩,h2,(hb L h1.1).trans h3⟩
  | some r=>obtain⟨L,M,h1,h2,h3,h4⟩:=h;exact⟨L,M,⟨he _ _ h1.1,h1.2⟩,h2,he _ _ h3,(hb L h1.1).trans h4⟩
theorem xN.loc{P:Program}{w0:World}{U:Rn}{w:World}{i:Nat}{o:fD} (h:xN P w0 U w i o) (hd:o.sK=false):∃L,U i=some L:=by
 cases o with
 | dead=>cases hd
 | cells vs e k=>obtain⟨L,_,_,_,h1,_⟩:=h;exact⟨L,h1⟩
 | map es c=>obtain⟨L,_,h1,_⟩:=h;exact⟨L,h1⟩
 | loop _ _ _ _ _ _=>obtain⟨L,_,h1,_⟩:=h;exact⟨L,h1⟩
 | defers=>obtain⟨L,h1,_⟩:=h;exact⟨L,h1⟩
 | iter m since seen last=>cases m with
  | none=>obtain⟨L,_,_,_,h1,_⟩:=h;exact⟨L,h1.1⟩
  | some r=>obtain⟨L,_,h1,_⟩:=h;exact⟨L,h1.1⟩
def Fr (U:Rn) (w w':World):Prop:=w.heap.size<=w'.heap.size/\∀c,c<w.heap.size->(∀i L,U i=some L->L.b≠c)->w'.heap[c]? =w.heap[c]?
def Nw (U U':Rn) (w:World):Prop:=∀i L,U' i=some L->U i=some L\/w.heap.size<=L.b\/∃j M,U j=some M/\M.b=L.b
structure Stp (U:Rn) (w:World) (U':Rn) (w':World):Prop where
 ext:Ext U U'
 fr:Fr U w w'
 nw:Nw U U' w
theorem Stp.refl (U:Rn) (w:World):Stp U w U w:=⟨.refl U,⟨Nat.le_refl _,fun _ _ _=>rfl⟩,fun _ _ h=> .inl h⟩
theorem Stp.trans{U U1 U2:Rn}{w w1 w2:World} (h:Stp U w U1 w1) (k:Stp U1 w1 U2 w2):Stp U w U2 w2:=by
 refine⟨h.ext.trans k.ext,⟨Nat.le_trans h.fr.1 k.fr.1,fun c hc hn=>?_⟩,fun i L hi=>?_⟩
 ·rw [k.fr.2 c (Nat.lt_of_lt_of_le hc h.fr.1) (fun i L hi=>?_),h.fr.2 c hc hn]
  rcases h.nw i L hi with h1 | h1 | ⟨j,M,h1,h2⟩
  ·exact hn i L h1
  ·omega
  ·rw [<-h2];exact hn j M h1
 ·rcases k.nw i L hi with h1 | h1 | ⟨j,M,h1,h2⟩
  ·exact h.nw i L h1
  ·exact .inr (.inl (Nat.le_trans h.fr.1 h1))
  ·rcases h.nw j M h1 with h3 | h3 | ⟨q,N,h3,h4⟩
   ·exact .inr (.inr ⟨j,M,h3,h2⟩)
   ·exact .inr (.inl (by omega))
   ·exact .inr (.inr ⟨q,N,h3,by omega⟩)
def Rn.put (U:Rn) (i:Nat) (L:Loc):Rn:=fun j=>if j=i then some L else U j
theorem Rn.DP{U:Rn}{i:Nat}{L:Loc} (h:U i=none):Ext U (U.put i L):=fun j M hj=>by
 unfold Rn.put;by_cases e:j=i
 ·subst e;rw [h]at hj;cases hj
 ·rw [if_neg e];exact hj
theorem Rn.iF (U:Rn) (i:Nat) (L:Loc):U.put i L i=some L:=if_pos rfl
section upd
variable{P:Program}{w0:World}{U:Rn}{Sz:St}{w:World}
theorem Rel.new (h:Rel P w0 U Sz w) (o:fD) (ob:Obj) (L:Loc) (hL:L.b=w.heap.size)
 (ho:∀U':Rn,Ext U U'->U' Sz.n=some L->xN P w0 U' (w.alloc ob) Sz.n o)
 (hold:∀i∈o.olds,i<Sz.n/\∀x,Sz.obj i=some x->x= .dead\/∃ws e,x= .cells ws e .stale):
 Rel P w0 (U.put Sz.n L) (Sz.new o) (w.alloc ob)/\Stp U w (U.put Sz.n L) (w.alloc ob):=by
 have hnone:=h.dom Sz.n (Nat.le_refl _);have he:Ext U (U.put Sz.n L):=Rn.DP hnone;have hold:∀k,k<w.heap.size->(w.alloc ob).heap[k]? =w.heap[k]? :=fun k hk=>by show(w.heap.push ob)[k]? =_;rw [Array.getElem?_push,if_neg (by omega)]
 have hsz:(w.alloc ob).heap.size=w.heap.size+1:=Array.size_push _
 have hput:∀j M,U.put Sz.n L j=some M->(j=Sz.n/\M=L)\/(j≠Sz.n/\U j=some M):=fun j M hj=>by
  unfold Rn.put at hj;by_cases e:j=Sz.n
  ·rw [if_pos e]at hj;injection hj with hj;exact .inl ⟨e,hj.symm⟩
  ·rw [if_neg e]at hj;exact .inr ⟨e,hj⟩
 have oB:∀j x,(Sz.new o).obj j=some x->(j=Sz.n/\x=o)\/(j≠Sz.n/\Sz.obj j=some x):=fun j x hx=>by
  rw [IE]at hx;by_cases e:j=Sz.n
  ·rw [if_pos e]at hx;injection hx with hx;exact .inl ⟨e,hx.symm⟩
  ·rw [if_neg e]at hx;exact .inr ⟨e,hx⟩
 refine⟨⟨fun g hg=>let⟨M,h1,h2⟩:=h.TM g hg;⟨M,he _ _ h1,h2⟩,fun j x hx=>?_,fun j hj=>?_,fun j x hx=>?_,fun j M hj=>?_,fun i j a b M N hij ha hb hda hdb hM hN WS=>?_,fun j vs e olds hj i hi=>?_,?_⟩,he,⟨by omega,fun c hc _=>hold c hc⟩,fun j M hj=>?_⟩
 ·rcases oB j x hx with ⟨e,ex⟩ | ⟨e,hx⟩
  ·subst e ex;exact ho _ he (Rn.iF _ _ _)
  ·exact(h.BP j x hx).frame he fun M hM=>hold _ (h.loc j M hM)
 ·have hj':Sz.n+1<=j:=hj
  unfold Rn.put;rw [if_neg (by omega)];exact h.dom j (by omega)
 ·rcases oB j x hx with ⟨e,_⟩ | ⟨_,hx⟩
  ·subst e;exact Nat.lt_succ_self _
  ·exact Nat.lt_succ_of_lt (h.lt j x hx)
 ·rcases hput j M hj with ⟨_,e⟩ | ⟨_,hM⟩
  ·subst e;omega
  ·have:=h.loc j M hM;omega
 ·rcases hput i M hM with ⟨ei,eM⟩ | ⟨ei,hM'⟩<;>rcases hput j N hN with ⟨ej,eN⟩ | ⟨ej,hN'⟩
  ·omega
  ·have:=h.loc j N hN';rw [eM]at WS;omega
  ·have:=h.loc i M hM';rw [eN]at WS;omega
  ·rcases oB i a ha with ⟨e,_⟩ | ⟨_,ha'⟩
   ·exact absurd e ei
   ·rcases oB j b hb with ⟨e,_⟩ | ⟨_,hb'⟩
    ·exact absurd e ej
    ·exact h.sep i j a b M N hij ha' hb' hda hdb hM' hN' WS
 ·rcases oB j _ hj with ⟨e1,e2⟩ | ⟨e1,hj'⟩
  ·subst e1 e2
   obtain⟨h1,h2⟩:=hold i hi;refine⟨Nat.lt_succ_of_lt h1,fun x hx=>?_⟩;rcases oB i x hx with ⟨e3,_⟩ | ⟨_,hx'⟩
   ·omega
   ·rcases h2 x hx' with h3 | ⟨ws,e',h3⟩
    ·exact .inl h3
    ·refine .inr ⟨ws,e',h3,fun L1 M hL1 hM hb=>?_⟩
     rcases hput _ _ hL1 with ⟨_,e4⟩ | ⟨e4,_⟩
     ·rcases hput _ _ hM with ⟨e5,_⟩ | ⟨_,hM'⟩
      ·omega
      ·have:=h.loc i M hM';rw [e4]at hb;omega
     ·exact absurd rfl e4
  ·obtain⟨h1,h2⟩:=h.old j vs e olds hj' i hi
   refine⟨Nat.lt_succ_of_lt h1,fun x hx=>?_⟩;rcases oB i x hx with ⟨e3,_⟩ | ⟨e3,hx'⟩
   ·omega
   ·rcases h2 x hx' with h3 | ⟨ws,e',h3,h4⟩
    ·exact .inl h3
    ·refine .inr ⟨ws,e',h3,fun L1 M hL1 hM hb=>?_⟩
     rcases hput _ _ hL1 with ⟨e4,_⟩ | ⟨_,hL1'⟩
     ·exact absurd e4 e1
     ·rcases hput _ _ hM with ⟨e5,_⟩ | ⟨_,hM'⟩
      ·exact absurd e5 e3
      ·exact h4 L1 M hL1' hM' hb
 ·exact⟨h.base.os,h.base.tape,h.base.output,by have:=h.base.size;omega,fun k hk=>(hold k (Nat.lt_of_lt_of_le hk h.base.size)).trans (h.base.block k hk)⟩
 ·rcases hput j M hj with ⟨_,e⟩ | ⟨_,hM⟩
  ·subst e;exact .inr (.inl (by omega))
  ·exact .inl hM
theorem Rel.drew (h:Rel P w0 U Sz w):Rel P w0 U Sz w.drew:=
 ⟨h.TM,fun i o hi=>(h.BP i o hi).frame (.refl U) fun _ _=>rfl,h.dom,h.lt,h.loc,h.sep,h.old,h.base.os,h.base.tape,h.base.output,h.base.size,h.base.block⟩
theorem Stp.drew (U:Rn) (w:World):Stp U w U w.drew:=⟨.refl U,⟨Nat.le_refl _,fun _ _ _=>rfl⟩,fun _ _ h=> .inl h⟩
theorem Rel.upd (h:Rel P w0 U Sz w){S':St}{w':World}{b:Nat} (hb:w0.heap.size<=b) (hin:∃i L,U i=some L/\L.b=b) (hn:S'.n=Sz.n)
 (hsz:w'.heap.size=w.heap.size) (hother:∀c,c≠b->w'.heap[c]? =w.heap[c]?) (hos:w'.os=w.os) (htape:w'.tape=w.tape) (hout:w'.output=w.output)
 (oB:∀j x,S'.obj j=some x->(x.sK=true/\j<Sz.n)\/(Sz.obj j=some x/\∀L,U j=some L->L.b≠b)\/(j<Sz.n/\xN P w0 U w' j x))
 (hsep:∀i j x y L M,i≠j->S'.obj i=some x->S'.obj j=some y->x.sK=false->y.sK=false->U i=some L->U j=some M->L.b=M.b->Ur i j x y)
 (hold:∀j vs e olds,S'.obj j=some (.cells vs e (.grown olds))->∀i∈olds,i<Sz.n/\∀o,S'.obj i=some o->Et U j vs i o):
 Rel P w0 U S' w'/\Stp U w U w':=by
 refine⟨⟨h.TM,fun j x hx=>?_,fun j hj=>h.dom j (by omega),fun j x hx=>?_,fun j L hj=>by rw [hsz];exact h.loc j L hj,hsep,fun j vs e olds hj i hi=>by rw [hn];exact hold j vs e olds hj i hi,?_⟩,.refl U,⟨by omega,fun c _ hc=>?_⟩,fun _ _ h=> .inl h⟩
 ·rcases oB j x hx with ⟨hd,_⟩ | ⟨hx',hL⟩ | ⟨_,hr⟩
  ·cases x<;>simp [fD.sK]at hd;trivial
  ·exact(h.BP j x hx').frame (.refl U) fun L hL'=>hother _ (hL L hL')
  ·exact hr
 ·rw [hn]
  rcases oB j x hx with ⟨_,hl⟩ | ⟨hx',_⟩ | ⟨hl,_⟩
  ·exact hl
  ·exact h.lt j x hx'
  ·exact hl
 ·exact⟨hos.trans h.base.os,htape.trans h.base.tape,hout.trans h.base.output,by have:=h.base.size;omega,fun k hk=>(hother k (by omega)).trans (h.base.block k hk)⟩
 ·obtain⟨i,L,hi,e⟩:=hin
  exact hother c (fun e'=>hc i L hi (by omega))
end upd
theorem OX (s:ByteArray):s.toList=s.data.toList:=by
 have h:∀(n i:Nat) (r:List UInt8),s.size-i=n->ByteArray.toList.loop s i r=r.reverse++s.data.toList.drop i:=by
  intro n;induction n with
  | zero=>
   intro i r hn;unfold ByteArray.toList.loop;have:¬i<s.size:=by omega
   rw [if_neg this,List.drop_eq_nil_of_le (by show s.data.toList.length<=i;have:s.size=s.data.toList.length:=rfl;omega),List.append_nil]
  | succ n ih=>
   intro i r hn;unfold ByteArray.toList.loop;have hi:i<s.size:=by omega
   rw [if_pos hi,ih (i+1) _ (by omega)];have hl:i<s.data.toList.length:=hi;rw [List.drop_eq_getElem_cons hl];have e:s.data[i]! =s.data.toList[i]:=by rw [getElem!_pos s.data i hi];rfl
   simp [ByteArray.get!,e]
 have:=h s.size 0 [] (by omega);simpa [ByteArray.toList]using this
section num
variable{K:Value->Bool}
theorem GH (x y:Int):Ef x y=decide (x<y):=by
 cases x<;>cases y<;>simp only [Ef,Nat.blt]<;>(rw [Bool.eq_iff_iff];simp only [decide_eq_true_eq,Nat.ble_eq];(try simp);omega)
theorem DK (x y:Int):Jj x y=(x==y):=by
 cases x<;>cases y<;>simp only [Jj]<;>(rw [Bool.eq_iff_iff];simp only [Nat.beq_eq,beq_iff_eq];(try simp);try omega)
theorem yW{j k:IntKind} (h:vN j k=true):j=k:=by cases j<;>cases k<;>first | rfl | (simp [vN]at h)
theorem wrap_in (k:IntKind) (n:Int) (h0:k.min<=n) (h1:n<=k.max):k.wrap n=n:=by
 cases k<;>simp [IntKind.min,IntKind.max,IntKind.bits,IntKind.signed]at h0 h1<;>simp [IntKind.wrap,IntKind.bits,IntKind.signed]<;>omega
theorem CB (k:IntKind) (n:Int):mU k n=k.wrap n:=by
 have hb:∀m c:Nat,Nat.blt m c=true->m<c:=fun m c h=>Nat.le_of_ble_eq_true h;have e1:IntKind.i64.min= -9223372036854775808:=by decide
 have e2:IntKind.i64.max=9223372036854775807:=by decide
 have e3:IntKind.u64.min=0:=by decide
 have e4:IntKind.u64.max=18446744073709551615:=by decide
 have e5:IntKind.u8.min=0:=by decide
 have e6:IntKind.u8.max=255:=by decide
 cases k
 case i64=>
  cases n with
  | ofNat m=>
   unfold mU;dsimp only;split
   ·rename_i h;have:=hb _ _ h;exact(wrap_in .i64 (m:Int) (by omega) (by omega)).symm
   ·rfl
  | negSucc m=>
   unfold mU;dsimp only;split
   ·rename_i h;have:=hb _ _ h;exact(wrap_in .i64 (Int.negSucc m) (by omega) (by omega)).symm
   ·rfl
 case u64=>
  cases n with
  | ofNat m=>
   unfold mU;dsimp only;split
   ·rename_i h;have:=hb _ _ h;exact(wrap_in .u64 (m:Int) (by omega) (by omega)).symm
   ·rfl
  | negSucc m=>rfl
 case u8=>
  cases n with
  | ofNat m=>
   unfold mU;dsimp only;split
   ·rename_i h;have:=hb _ _ h;exact(wrap_in .u8 (m:Int) (by omega) (by omega)).symm
   ·rfl
  | negSucc m=>rfl
 all_goals rfl
theorem Bj (k:IntKind) (n:Int):BM k n K=K (.int k (k.wrap n)):=by simp [BM,jA,CB]
theorem oP (b:Bool):kL b K=K (.bool b):=by simp [kL,kH]
theorem XC{op:BinOp}{k:IntKind}{x y:Int} (h:DG op k x y K=true):
 ∃v,K v=true/\aY v=true/\op≠ .shl/\op≠ .shr/\∀(P:Program) (t:TypeId) (w:World),(binOp op t (.int k x) (.int k y)).run P w= .ok v w:=by
 have ea:∀a b:Int,Int.add a b=a+b:=fun _ _=>rfl;have es:∀a b:Int,Int.sub a b=a-b:=fun _ _=>rfl;have em:∀a b:Int,Int.mul a b=a*b:=fun _ _=>rfl;cases op<;>simp only [DG,Bj,oP,jA,GH,DK,ea,es,em]at h
 case quo=>
  split at h
  ·cases h
  ·rename_i hy
   have hy':y≠0:=by simpa using hy
   exact⟨_,h,rfl,by simp,by simp,fun P t w=>by simp [binOp,Op.intDiv,hy']⟩
 case rem=>
  split at h
  ·cases h
  ·rename_i hy
   have hy':y≠0:=by simpa using hy
   exact⟨_,h,rfl,by simp,by simp,fun P t w=>by simp [binOp,Op.intDiv,hy']⟩
 all_goals first
  | cases h;done
  | exact⟨_,h,rfl,by simp,by simp,fun P t w=>by first | (simp [binOp,Op.intArith,Op.intBits,Op.intCmp,bne];done) | (simp [binOp,Op.intCmp];rw [Bool.eq_iff_iff];simp)⟩
theorem MG{op:BinOp}{k k':IntKind}{x y:Int} (h:KL op k x y K=true):
 ∃v,K v=true/\aY v=true/\∀(P:Program) (t:TypeId) (w:World),(binOp op t (.int k x) (.int k' y)).run P w= .ok v w:=by
 unfold KL at h;rw [GH]at h;split at h
 ·cases h
 ·rename_i hy
  have hy':¬y<0:=by simpa using hy
  cases op<;>simp only [Bj,jA]at h<;>first
   | cases h;done
   | exact⟨_,h,rfl,fun P t w=>by simp [binOp,Op.shift,hy']⟩
end num
section str
variable{K:Value->Bool}
theorem IF (a b:UInt8):Nat.beq a.toNat b.toNat=true↔a=b:=by
 rw [Nat.beq_eq];exact⟨fun h=>UInt8.toNat_inj.1 h,fun h=>by rw [h]⟩
theorem DL (a b:List UInt8):TE a b=(a==b):=by
 induction a generalizing b with
 | nil=>cases b<;>rfl
 | cons x a ih=>
  cases b with
  | nil=>rfl
  | cons y b=>
   show(match Nat.beq x.toNat y.toNat with | true=>TE a b | false=>false)=_;cases h:Nat.beq x.toNat y.toNat with
   | true=>simp only [ih];have:=(IF x y).1 h;subst this;simp
   | false=>
    have:x≠y:=fun e=>by rw [(IF x y).2 e]at h;cases h
    simp [this]
theorem Np (a b:List UInt8):Ql a b=Op.bytesLess a b:=by
 induction a generalizing b with
 | nil=>cases b<;>rfl
 | cons x a ih=>
  cases b with
  | nil=>rfl
  | cons y b=>
   show(match Nat.blt x.toNat y.toNat with | true=>true | false=>match Nat.beq x.toNat y.toNat with | true=>Ql a b | false=>false)=_;simp only [Op.bytesLess];cases h:Nat.blt x.toNat y.toNat with
   | true=>
    have:x<y:=by rw [UInt8.lt_iff_toNat_lt];have:=Nat.le_of_ble_eq_true h;omega
    simp [this]
   | false=>
    have:¬x<y:=by
     rw [UInt8.lt_iff_toNat_lt];intro hh;have:Nat.blt x.toNat y.toNat=true:=Nat.ble_eq_true_of_le hh;rw [this]at h;cases h
    cases h2:Nat.beq x.toNat y.toNat with
    | true=>have e:=(IF x y).1 h2;subst e;simp [ih]
    | false=>
     have e:x≠y:=fun e=>by rw [(IF x y).2 e]at h2;cases h2
     simp [this,e]
theorem Qz (a b:ByteArray):a++b=⟨⟨a.data.toList++b.data.toList⟩⟩:=by
 apply ByteArray.ext;apply Array.toList_inj.1;simp
theorem XD{op:BinOp}{x y:ByteArray} (h:Al op x y K=true):
 ∃v,K v=true/\aY v=true/\∀(P:Program) (t:TypeId) (w:World),(binOp op t (.string x) (.string y)).run P w= .ok v w:=by
 cases op<;>simp only [Al,oP,DL,Np]at h
 case add=>
  simp only [jS]at h;split at h
  ·rename_i hb
   rw [jB]at h;have hlt:x.size+y.size<9223372036854775808:=by have:=Nat.le_of_ble_eq_true hb;have e1:x.size=x.data.toList.length:=rfl;have e2:y.size=y.data.toList.length:=rfl;omega
   refine⟨_,h,rfl,fun P t w=>?_⟩;simp [binOp,Op.stringOp,Qz];omega
  ·cases h
 all_goals first
  | cases h;done
  | exact⟨_,h,rfl,fun P t w=>by simp [binOp,Op.stringOp,OX]⟩
end str
theorem lN (b off n:Nat):(⟨b,off,none⟩:Addr).add n=⟨b,off+n,none⟩:=by
 unfold Addr.add;split
 ·rename_i h;subst h;rfl
 ·rfl
section run
variable{P:Program}{w:World}
theorem run_loadCellsFrom (a:Addr):∀(m:List Value) (i:Nat) (acc:Array Value),(∀(j:Nat) (v:Value),m[j]? =some v->w.cell? (a.add (i+j))=some v)->
 (loadCellsFrom a i m.length acc).run P w= .ok (acc++m.toArray) w:=by
 intro m;induction m with
 | nil=>intro i acc _;simp [loadCellsFrom]
 | cons v m ih=>
  intro i acc h;have h0:=h 0 v rfl;rw [Nat.add_zero]at h0
  have h1:=ih (i+1) (acc.push v) fun j x hj=>by
   have:=h (j+1) x (by simpa using hj)
   rwa [show i+(j+1)=i+1+j by omega]at this
  simp [loadCellsFrom,h0,h1]
theorem run_loadCells (a:Addr) (m:List Value){n:Nat} (hn:m.length=n) (h:∀(j:Nat) (v:Value),m[j]? =some v->w.cell? (a.add j)=some v):
 (loadCells a n).run P w= .ok ⟨m⟩ w:=by
 subst hn;have:=run_loadCellsFrom (P:=P) a m 0 #[] (by simpa using h);simpa [loadCells]using this
theorem Gc{b off:Nat}{cs:Array Value}{t:TypeId}{fz:Nat×Nat} (h:w.heap[b]? =some (.cells cs t fz)) (v:Value):
 w.setCell ⟨b,off,none⟩ v=w.putObj b (.cells (cs.setIfInBounds off v) t fz):=by
 unfold World.setCell World.putObj
 congr 1
 apply Array.ext_getElem?;intro k;rw [Array.getElem?_modify,Array.getElem?_setIfInBounds];by_cases e:b=k
 ·subst e
  obtain⟨hlt,hb⟩:=Array.getElem?_eq_some_iff.1 h;simp [hb,hlt]
 ·simp [e]
theorem XF (b:Nat) (x y:Obj):(w.putObj b x).putObj b y=w.putObj b y:=by
 unfold World.putObj
 congr 1
 apply Array.ext_getElem?;intro k;simp only [Array.getElem?_setIfInBounds,Array.size_setIfInBounds];by_cases e:b=k<;>simp [e]
theorem GU{b:Nat}{x:Obj} (h:w.heap[b]? =some x):w.putObj b x=w:=by
 unfold World.putObj
 have:w.heap.setIfInBounds b x=w.heap:=by
  apply Array.ext_getElem?;intro k;rw [Array.getElem?_setIfInBounds];by_cases e:b=k
  ·subst e
   obtain⟨hlt,hb⟩:=Array.getElem?_eq_some_iff.1 h;simp [hb,hlt]
  ·simp [e]
 rw [this]
theorem KW{b:Nat}{x y:Obj} (h:w.heap[b]? =some y):(w.putObj b x).heap[b]? =some x:=World.putObj_heap_same (Array.getElem?_eq_some_iff.1 h).1
theorem uF{b c:Nat}{x:Obj} (h:c≠b):(w.putObj b x).heap[c]? =w.heap[c]? :=World.putObj_heap_other h
theorem putObj_size (b:Nat) (x:Obj):(w.putObj b x).heap.size=w.heap.size:=by simp [World.putObj]
theorem yX:∀(new:List Value) (w:World) (b off i:Nat) (cs:Array Value) (t:TypeId) (fz:Nat×Nat),w.heap[b]? =some (.cells cs t fz)->off+i+new.length<=cs.size->
 (∀x,off+i<=x->x<off+i+new.length->¬(fz.1<=x/\x<fz.2))->(∀v∈new,v.oneCell'=true)->
 (storeCells ⟨b,off,none⟩ new i).run P w= .ok () (w.putObj b (.cells ⟨splice (off+i) new cs.toList⟩ t fz)):=by
 intro new;induction new with
 | nil=>
  intro w b off i cs t fz h hs _ _;have e:splice (off+i) [] cs.toList=cs.toList:=by simp [splice]
  rw [e];simp [storeCells,GU h]
 | cons v new ih=>
  intro w b off i cs t fz h hs hfz h1;have hlt:off+i<cs.size:=by simp at hs;omega
  have hc:w.cell? ⟨b,off+i,none⟩=some cs[off+i]:=by simp [World.cell?,h,hlt]
  have hf:w.frozen? ⟨b,off+i,none⟩=false:=by
   have:=hfz (off+i) (Nat.le_refl _) (by simp);simp only [World.frozen?,h];simpa using this
  have hrun:(store (⟨b,off+i,none⟩:Addr) v).run P w= .ok () (w.putObj b (.cells (cs.setIfInBounds (off+i) v) t fz)):=by
   rw [run_store P w _ v .plain (h1 v (by simp)),hc,hf,Gc h];rfl
  have hih:=ih (w.putObj b (.cells (cs.setIfInBounds (off+i) v) t fz)) b off (i+1) (cs.setIfInBounds (off+i) v) t fz (KW h)
   (by simp at hs ⊢;omega) (fun x hx hy=>hfz x (by omega) (by simp;omega)) (fun u hu=>h1 u (by simp [hu]))
  have es:splice (off+(i+1)) new (cs.setIfInBounds (off+i) v).toList=splice (off+i) (v::new) cs.toList:=by
   apply List.ext_getElem?;intro j;have hl:cs.toList.length=cs.size:=rfl;rw [oA _ _ _ (by simp at hs ⊢;omega),oA _ _ _ (by simp at hs ⊢;omega)];simp only [Array.toList_setIfInBounds,List.length_cons];by_cases h2:j=off+i
   ·subst h2
    rw [if_neg (by omega),if_pos (by omega),Nat.sub_self];simp [hlt]
   ·by_cases h3:off+(i+1)<=j/\j<off+(i+1)+new.length
    ·rw [if_pos h3,if_pos (by omega)]
     obtain⟨q,rfl⟩:∃q,j=off+i+(q+1):=⟨j-(off+i+1),by omega⟩;rw [show off+i+(q+1)-(off+(i+1))=q by omega,show off+i+(q+1)-(off+i)=q+1 by omega];simp
    ·rw [if_neg h3,if_neg (by omega),List.getElem?_set_ne (by omega)]
  simp only [storeCells,lN];rw [Sem.run_bind,hrun,Result.andThen_ok,hih,XF,es]
end run
section mem
variable{P:Program}{w0:World}{U:Rn}{Sz:St}{w:World}
theorem Rel.cells (h:Rel P w0 U Sz w){i:Nat}{vs:List Value}{e:TypeId}{k:CK} (ho:Sz.obj i=some (.cells vs e k)){L:Loc} (hL:U i=some L):
 ∃cs t fz,w.heap[L.b]? =some (.cells cs t fz)/\(∀(j:Nat) (v:Value),vs[j]? =some v->∃v',cs[L.s+j]? =some v'/\VR U v v')/\Be P w0 L cs vs.length fz e t k:=by
 obtain⟨M,cs,t,fz,h1,h2,h3,h4⟩:=h.BP i _ ho;rw [hL]at h1;injection h1 with h1;subst h1;exact⟨cs,t,fz,h2,h3,h4⟩
theorem cell_of{b:Nat}{cs:Array Value}{t:TypeId}{fz:Nat×Nat} (h:w.heap[b]? =some (.cells cs t fz)){j:Nat}{v:Value} (hj:cs[j]? =some v):w.cell? ⟨b,j,none⟩=some v:=by
 simp [World.cell?,h,hj]
theorem Rel.yP (h:Rel P w0 U Sz w){i:Nat}{vs:List Value}{e:TypeId}{k:CK} (ho:Sz.obj i=some (.cells vs e k)){L:Loc} (hL:U i=some L){off n:Nat} (hn:off+n<=vs.length):
 ∃l',gW U ((vs.drop off).take n) l'/\l'.length=n/\∀(j:Nat) (v:Value),l'[j]? =some v->w.cell? ((⟨L.b,L.s+off,none⟩:Addr).add j)=some v:=by
 obtain⟨cs,t,fz,h2,h3,_⟩:=h.cells ho hL;refine⟨(List.range n).map fun j=>cs.getD (L.s+(off+j)) undef,⟨by simp;omega,fun j v v' a b=>?_⟩,by simp,fun j v hj=>?_⟩
 ·rw [List.getElem?_take]at a
  split at a
  ·rename_i hj
   rw [List.getElem?_drop]at a;obtain⟨u,hu,hr⟩:=h3 _ v a;simp [hj]at b;have:cs.getD (L.s+(off+j)) undef=u:=by simp [Array.getD_eq_getD_getElem?,hu]
   simp [Array.getD_eq_getD_getElem?]at this;rw [<-b,this];exact hr
  ·cases a
 ·have hj':j<n:=by have:=(List.getElem?_eq_some_iff.1 hj).1;simpa using this
  simp [hj']at hj;have hlt:off+j<vs.length:=by omega
  obtain⟨u,hu,_⟩:=h3 (off+j) vs[off+j] (List.getElem?_eq_getElem hlt);rw [lN,show L.s+off+j=L.s+(off+j)by omega];rw [cell_of h2 hu]
  congr 1
  rw [<-hj];simp [hu]
theorem Rel.Vk (h:Rel P w0 U Sz w){i:Nat}{vs:List Value}{e:TypeId}{k:CK} (ho:Sz.obj i=some (.cells vs e k)){L:Loc} (hL:U i=some L){o:Nat}{v:Value} (hv:vs[o]? =some v):
 ∃v',w.cell? ⟨L.b,L.s+o,none⟩=some v'/\VR U v v':=by
 obtain⟨cs,t,fz,h2,h3,_⟩:=h.cells ho hL;obtain⟨u,hu,hr⟩:=h3 o v hv;exact⟨u,cell_of h2 hu,hr⟩
theorem yV{t:TypeId}{b:Bool} (h:pV P t=some b) (w:World):(isAgg t).run P w= .ok b w:=by
 unfold pV at h;cases hu:P.underlying t with
 | none=>simp [hu]at h
 | some d=>
  simp [hu]at h;simp only [isAgg,Sem.run_bind,run_underlying hu,Result.andThen_ok];subst h;cases d<;>rfl
theorem fE{t:TypeId}{n:Nat} (h:bL P t=some n) (w:World):(sizeOf t).run P w= .ok n w:=by
 unfold bL at h;cases hu:P.info? t with
 | none=>simp [hu]at h
 | some i=>simp [hu]at h;simp [sizeOf,typeInfo,hu,h]
theorem Uo{t:TypeId}{i:TypeInfo} (h:P.info? t=some i) (w:World):(typeInfo t).run P w= .ok i w:=by simp [typeInfo,h]
theorem vR{t:TypeId}{z:List Value} (h:pJ P t=some z) (w:World):∃v,(zeroValue t).run P w= .ok v w/\v.cells.toList=z:=by
 unfold pJ at h;cases hu:P.info? t with
 | none=>simp [hu]at h
 | some i=>
  cases hz:i.zero with
  | none=>simp [hu,hz]at h
  | some v=>simp [hu,hz]at h;exact⟨v,by simp [zeroValue,typeInfo,hu,hz],h⟩
theorem GI (h:Rel P w0 U Sz w){t:TypeId}{a a':Value}{K:VK} (hk:BV P t a Sz K=true) (ha:VR U a a'):
 ∃v v',K v Sz=true/\VR U v v'/\(Instr.loadAt t a').run P w= .ok v' w:=by
 unfold BV at hk;split at hk
 ·rename_i i o
  cases ha with
  | flat h=>simp [aY]at h
  | ptr hL=>
   rename_i L;split at hk
   ·rename_i hagg
    obtain⟨vs,e,c,ho,hk⟩:=wS hk;obtain⟨v,hv,hk⟩:=BZ hk;obtain⟨v',hc,hr⟩:=h.Vk ho hL hv;refine⟨v,v',hk,hr,?_⟩;simp [Instr.loadAt,Instr.sureAddr,loadVar,yV hagg,hc]
   ·rename_i hagg
    split at hk
    ·rename_i n hsz
     obtain⟨vs,e,c,ho,hn,hk⟩:=vS hk;obtain⟨l',hr,hl,hc⟩:=h.yP ho hL hn;refine⟨_,.agg ⟨l'⟩,hk,.Aq hr,?_⟩;simp [Instr.loadAt,Instr.sureAddr,loadVar,yV hagg,fE hsz,run_loadCells _ l' hl hc]
    ·cases hk
   ·cases hk
 ·cases hk
end mem
section mem
variable{P:Program}{w0:World}{U:Rn}{Sz:St}{w:World}
theorem YP:∀{new l:List Value},asIs new l=true->(∀v∈new,aY v=true)/\∀(j:Nat) (v:Value),new[j]? =some v->l[j]? =some v:=by
 intro new;induction new with
 | nil=>intro l _;exact⟨by simp,by simp⟩
 | cons a new ih=>
  intro l h;unfold asIs at h;rw [aW]at h;cases l with
  | nil=>cases h
  | cons b t=>
   have h2:(match(generalizing:=false) a,b with
    | .int j x,.int k y=>match vN j k with
     | true=>match Jj x y with | true=>asIs new t | false=>false
     | false=>false
    | _,_=>false)=true:=h
   split at h2
   ·split at h2
    ·rename_i hk
     split at h2
     ·rename_i hx
      have e1:=yW hk;rw [DK]at hx;have e2:=eq_of_beq hx;subst e1 e2;have h:asIs new t=true:=h2;obtain⟨i1,i2⟩:=ih h;refine⟨fun v hv=>?_,fun j v hj=>?_⟩
      ·rcases List.mem_cons.1 hv with e | hv
       ·subst e;rfl
       ·exact i1 v hv
      ·cases j with
       | zero=>simpa using hj
       | succ j=>simpa using i2 j v (by simpa using hj)
     ·cases h2
    ·cases h2
   ·cases h2
theorem yG (h:Rel P w0 U Sz w){i off:Nat}{new new':List Value}{k:St->Bool} (hk:pU Sz i off new k=true){L:Loc} (hL:U i=some L)
 (hn:gW U new new') (h1:∀v∈new',v.oneCell'=true):
 ∃S' w',k S'=true/\Rel P w0 U S' w'/\Stp U w U w'/\(storeCells ⟨L.b,L.s+off,none⟩ new').run P w= .ok () w':=by
 obtain⟨vs,e,c,ho,hk⟩:=wS hk;obtain⟨cs,t,fz,hb,hcell,hkind⟩:=h.cells ho hL
 have key:∀(S':St) (kd:CK) (olds:List Nat),S'.n=Sz.n->(∀j,S'.obj j=if j=i then some (.cells (splice off new vs) e kd)else if j∈olds then some .dead else Sz.obj j)->
  off+new.length<=vs.length->w0.heap.size<=L.b->TO cs.size fz->(fD.cells vs e c).reads=false->(∀l,kd= .grown l->l=[])->(fD.cells vs e c).olds=olds->(fD.cells (splice off new vs) e kd).reads=false->
  (∀j∈olds,j<Sz.n)->
  (∀cs':Array Value,cs'.size=cs.size->Be P w0 L cs' vs.length fz e t kd)->
  Rel P w0 U S' (w.putObj L.b (.cells ⟨splice (L.s+off) new' cs.toList⟩ t fz))/\Stp U w U (w.putObj L.b (.cells ⟨splice (L.s+off) new' cs.toList⟩ t fz))/\
   (storeCells ⟨L.b,L.s+off,none⟩ new').run P w= .ok () (w.putObj L.b (.cells ⟨splice (L.s+off) new' cs.toList⟩ t fz)):=by
  intro S' kd olds hSn oB hlen hB hth hreads hkd holds aG2 aDN hKR
  have hvl:∀j,j<vs.length->L.s+j<cs.size:=fun j hj=>by
   obtain⟨v',hv',_⟩:=hcell j vs[j] (List.getElem?_eq_getElem hj);exact(Array.getElem?_eq_some_iff.1 hv').1
  have hfit:new.length=0\/L.s+off+new'.length<=cs.size:=by
   rcases Nat.eq_zero_or_pos new.length with hz | hz
   ·exact .inl hz
   ·right
    have:=hvl (off+new.length-1) (by omega);rw [<-hn.1];omega
  have hcs:cs.toList.length=cs.size:=rfl
  have hsz:(⟨splice (L.s+off) new' cs.toList⟩:Array Value).size=cs.size:=by
   rcases hfit with hz | hz
   ·have:new'=[]:=List.eq_nil_of_length_eq_zero (by rw [<-hn.1];exact hz)
    subst this;simp [splice]
   ·show(splice (L.s+off) new' cs.toList).length=_
    rw [wJ _ _ _ (by omega)];exact hcs
  have hget:∀j:Nat,(⟨splice (L.s+off) new' cs.toList⟩:Array Value)[j]? =if L.s+off<=j/\j<L.s+off+new'.length then new'[j-(L.s+off)]? else cs[j]? :=by
   intro j;rcases hfit with hz | hz
   ·have:new'=[]:=List.eq_nil_of_length_eq_zero (by rw [<-hn.1];exact hz)
    subst this;rw [if_neg (by simp)];simp [splice]
   ·have:=oA (L.s+off) new' cs.toList (by omega) j
    simpa using this
  have hnew:xN P w0 U (w.putObj L.b (.cells ⟨splice (L.s+off) new' cs.toList⟩ t fz)) i (.cells (splice off new vs) e kd):=by
   refine⟨L,_,t,fz,hL,KW hb,fun j v hj=>?_,by rw [wJ _ _ _ hlen];exact hKR _ hsz⟩;rw [oA _ _ _ hlen]at hj;rw [hget];split at hj
   ·rename_i hr
    rw [if_pos (by have:=hn.1;omega)];obtain⟨v',hv',hr'⟩:=hn.get hj;exact⟨v',by rw [show L.s+j-(L.s+off)=j-off by omega];exact hv',hr'⟩
   ·rename_i hr
    rw [if_neg (by have:=hn.1;omega)];exact hcell j v hj
  have Kb:∀j x M,j≠i->j∉olds->Sz.obj j=some x->x.sK=false->U j=some M->M.b≠L.b:=by
   intro j x M hj hjo hx hd hM hb';rcases h.sep i j _ x L M (Ne.symm hj) ho hx rfl hd hL hM hb'.symm with ⟨hr,_⟩ | hs | hs
   ·rw [hreads]at hr;cases hr
   ·rw [holds]at hs;exact hjo hs
   ·cases x with
    | cells ws e' kk=>
     cases kk with
     | grown l=>
      obtain⟨_,h2⟩:=h.old j ws e' l hx i hs;rcases h2 _ ho with h3 | ⟨_,_,h3,_⟩
      ·cases h3
      ·injection h3 with _ _ h3;subst h3;simp [fD.reads]at hreads
     | _=>simp [fD.olds]at hs
    | _=>simp [fD.olds]at hs
  have hcase:∀j x,S'.obj j=some x->(j=i/\x= .cells (splice off new vs) e kd)\/(j≠i/\j∈olds/\x= .dead)\/(j≠i/\j∉olds/\Sz.obj j=some x):=by
   intro j x hx;rw [oB]at hx;by_cases e1:j=i
   ·rw [if_pos e1]at hx;injection hx with hx;exact .inl ⟨e1,hx.symm⟩
   ·rw [if_neg e1]at hx
    by_cases e2:j∈olds
    ·rw [if_pos e2]at hx;injection hx with hx;exact .inr (.inl ⟨e1,e2,hx.symm⟩)
    ·rw [if_neg e2]at hx;exact .inr (.inr ⟨e1,e2,hx⟩)
  have hrel:=h.upd (S':=S') (w':=w.putObj L.b (.cells ⟨splice (L.s+off) new' cs.toList⟩ t fz)) (b:=L.b) hB ⟨i,L,hL,rfl⟩ hSn (putObj_size _ _) (fun c hc=>uF hc) rfl rfl rfl
   (fun j x hx=>by
    rcases hcase j x hx with ⟨e1,e2⟩ | ⟨e1,e2,e3⟩ | ⟨e1,e2,hx'⟩
    ·subst e1 e2;exact .inr (.inr ⟨h.lt _ _ ho,hnew⟩)
    ·subst e3;exact .inl ⟨rfl,aDN _ e2⟩
    ·cases hd:x.sK with
     | true=>exact .inl ⟨rfl,h.lt _ _ hx'⟩
     | false=>exact .inr (.inl ⟨hx',fun M hM=>Kb j x M e1 e2 hx' hd hM⟩))
   (fun p q x y M N hpq hx hy hdx hdy hM hN WS=>by
    rcases hcase p x hx with ⟨e1,e2⟩ | ⟨_,_,e3⟩ | ⟨e1,e2,hx'⟩
    ·rcases hcase q y hy with ⟨f1,_⟩ | ⟨_,_,f3⟩ | ⟨f1,f2,hy'⟩
     ·exact absurd (e1.trans f1.symm) hpq
     ·subst f3;cases hdy
     ·subst e1;rw [hL]at hM;injection hM with hM;subst hM
      exact absurd WS.symm (Kb q y N f1 f2 hy' hdy hN)
    ·subst e3;cases hdx
    ·rcases hcase q y hy with ⟨f1,_⟩ | ⟨_,_,f3⟩ | ⟨f1,f2,hy'⟩
     ·subst f1;rw [hL]at hN;injection hN with hN;subst hN
      exact absurd WS (Kb p x M e1 e2 hx' hdx hM)
     ·subst f3;cases hdy
     ·exact h.sep p q x y M N hpq hx' hy' hdx hdy hM hN WS)
   (fun j ws e' l hj q hq=>by
    rcases hcase j _ hj with ⟨e1,e2⟩ | ⟨_,_,e3⟩ | ⟨e1,e2,hj'⟩
    ·injection e2 with _ _ e2
     have:=hkd l e2.symm;subst this;cases hq
    ·cases e3
    ·obtain⟨g1,g2⟩:=h.old j ws e' l hj' q hq
     refine⟨g1,fun o hqo=>?_⟩;rcases hcase q o hqo with ⟨f1,f2⟩ | ⟨_,_,f3⟩ | ⟨_,_,hq'⟩
     ·subst f1
      rcases g2 _ ho with g3 | ⟨_,_,g3,_⟩
      ·cases g3
      ·injection g3 with _ _ g3;subst g3;simp [fD.reads]at hreads
     ·exact .inl f3
     ·exact g2 o hq')
  refine⟨hrel.1,hrel.2,?_⟩;rcases hfit with hz | hz
  ·have:new'=[]:=List.eq_nil_of_length_eq_zero (by rw [<-hn.1];exact hz)
   subst this;have e1:splice (L.s+off) [] cs.toList=cs.toList:=by simp [splice]
   rw [e1,GU hb];simp [storeCells]
  ·have:=yX (P:=P) new' w L.b (L.s+off) 0 cs t fz hb (by omega) (fun x hx hy=>hth x (by omega)) h1
   simpa using this
 have aFt:asIs new (vs.drop off)=true->k Sz=true->(∀j,j<vs.length->¬(fz.1<=L.s+j/\L.s+j<fz.2))->
  ∃S' w',k S'=true/\Rel P w0 U S' w'/\Stp U w U w'/\(storeCells ⟨L.b,L.s+off,none⟩ new').run P w= .ok () w':=by
  intro hs hk2 hth;obtain⟨s1,s2⟩:=YP hs
  have hnn:new'=new:=by
   apply List.ext_getElem?;intro j;cases hj:new[j]? with
   | none=>exact hn.get_none hj
   | some v=>
    obtain⟨v',hv',hr⟩:=hn.get hj;rw [hv',hr.of_flat (s1 v (List.mem_of_getElem? hj))]
  subst hnn
  have hcur:∀j v,new'[j]? =some v->cs[L.s+off+j]? =some v:=fun j v hj=>by
   obtain⟨v',hv',hr⟩:=hcell (off+j) v (by have:=s2 j v hj;rw [List.getElem?_drop]at this;exact this);rw [<-Nat.add_assoc]at hv';rw [hv',hr.of_flat (s1 v (List.mem_of_getElem? hj))]
  have aHc:∀j,j<new'.length->off+j<vs.length:=fun j hj=>by
   have:=s2 j new'[j] (List.getElem?_eq_getElem hj);rw [List.getElem?_drop]at this;exact(List.getElem?_eq_some_iff.1 this).1
  rcases Nat.eq_zero_or_pos new'.length with hz | hz
  ·have:new'=[]:=List.eq_nil_of_length_eq_zero hz
   subst this;exact⟨Sz,w,hk2,h,.refl U w,by simp [storeCells]⟩
  ·have hle:L.s+off+new'.length<=cs.size:=by
    have:=hcur (new'.length-1) _ (List.getElem?_eq_getElem (by omega));have:=(Array.getElem?_eq_some_iff.1 this).1;omega
   have hrun:=yX (P:=P) new' w L.b (L.s+off) 0 cs t fz hb (by omega) (fun x hx hy=>by
    have:=hth (x-L.s) (by have:=aHc (x-L.s-off) (by omega);omega)
    rwa [show L.s+(x-L.s)=x by omega]at this) h1
   have hsp:splice (L.s+off) new' cs.toList=cs.toList:=by
    apply List.ext_getElem?;intro j;rw [oA _ _ _ (by simpa using hle)];split
    ·rename_i hj
     rw [List.getElem?_eq_getElem (by omega)];have:=hcur (j-(L.s+off)) _ (List.getElem?_eq_getElem (by omega));rw [show L.s+off+(j-(L.s+off))=j by omega]at this;simpa using this.symm
    ·rfl
   refine⟨Sz,w,hk2,h,.refl U w,?_⟩;have e:w.putObj L.b (.cells ⟨splice (L.s+off) new' cs.toList⟩ t fz)=w:=by rw [hsp];exact GU hb
   simpa [e]using hrun
 cases c with
 | exact=>
  simp only [sI]at hk;split at hk
  ·rename_i hlen
   rw [eQ]at hk;obtain⟨g1,g2,g3,g4⟩:=hkind
   obtain⟨r1,r2,r3⟩:=key (Sz.set i (.cells (splice off new vs) e .exact)) .exact [] rfl (fun j=>by rw [wL];simp) hlen g1 g4.1 rfl (by simp) rfl rfl (by simp)
    (fun cs' hcs'=>⟨g1,g2,by omega,by rw [hcs'];exact g4⟩)
   exact⟨_,_,hk,r1,r2,r3⟩
  ·cases hk
 | grown olds=>
  have hk2:(AQ off vs fun l=>match asIs new l with | true=>k Sz | false=>mM off new vs fun vs=>YC olds Sz.h fun h=>IX (.cells vs e (.grown [])) (Nat.succ i) h i fun h=>k ⟨h,Sz.n⟩)=true:=hk;clear hk;rw [uE]at hk2;split at hk2
  ·cases hs:asIs new (vs.drop off)with
   | true=>
    rw [hs]at hk2;obtain⟨g1,g2,g3,g4⟩:=hkind;refine aFt hs hk2 fun j hj=>g2 _ ?_;obtain⟨v',hv',_⟩:=hcell j _ (List.getElem?_eq_getElem hj);exact(Array.getElem?_eq_some_iff.1 hv').1
   | false=>
    rw [hs]at hk2;have hk:=hk2;clear hk2;simp only [sI]at hk;split at hk
    ·rename_i hlen
     rw [Ew,DQ]at hk;obtain⟨g1,g2,g3,g4⟩:=hkind
     obtain⟨r1,r2,r3⟩:=key ⟨Tr.yC (fD.cells (splice off new vs) e (CK.grown [])) i.succ (olds.foldl (fun h i=>h.put i fD.dead) Sz.h) i,Sz.n⟩ (.grown []) olds rfl (fun j=>by
      show Tr.get (Tr.yC _ (i+1) _ i) j=_;rw [TQ _ _ _ _ _ (Nat.lt_succ_self i),Ex];rfl) hlen g1 g2 rfl (fun l hl=>by injection hl with hl;exact hl.symm) rfl rfl
      (fun j hj=>(h.old i vs e olds ho j hj).1) (fun cs' hcs'=>⟨g1,by rw [hcs'];exact g2,by rw [hcs'];exact g3,g4⟩)
     exact⟨_,_,hk,r1,r2,r3⟩
    ·cases hk
  ·cases hk2
 | rs=>
  have hk2:(AQ off vs fun l=>match asIs new l with | true=>k Sz | false=>false)=true:=hk;rw [uE]at hk2;split at hk2
  ·cases hs:asIs new (vs.drop off)with
   | true=>rw [hs]at hk2;exact aFt hs hk2 hkind.2
   | false=>rw [hs]at hk2;cases hk2
  ·cases hk2
 | stale=>cases hk
 | ro=>cases hk
theorem wI{v:Value}{k:List Value->Bool} (hk:kM v k=true){v':Value} (hv:VR U v v'):
 ∃cs,k cs=true/\(∀x∈cs,oneCell x=true)/\gW U cs v'.cells.toList/\cs=v.cells.toList:=by
 unfold kM at hk;split at hk
 ·rename_i cs
  rw [jT]at hk;split at hk
  ·rename_i ha
   obtain⟨a',rfl,hl⟩:=hv.AS;exact⟨_,hk,List.all_eq_true.1 ha,hl,rfl⟩
  ·cases hk
 ·cases hk
 ·rename_i h1 h2
  have hc:v.cells= #[v]:=by cases v<;>first | rfl | exact absurd rfl (h1 _)
  have ho:oneCell v=true:=by cases v<;>first | rfl | exact absurd rfl (h1 _) | exact absurd rfl (h2 _)
  have hc':v'.cells= #[v']:=by have:=hv.oneCell ho;cases v'<;>first | rfl | (simp [Value.oneCell']at this)
  exact⟨_,hk,by simpa using ho,by rw [hc'];exact .cons hv (.nil U),by rw [hc]⟩
theorem LX{l l':List Value} (h:gW U l l') (h1:∀x∈l,oneCell x=true):∀v∈l',v.oneCell'=true:=by
 intro v hv;obtain⟨j,hj⟩:=List.getElem?_of_mem hv;have hlt:j<l.length:=by rw [h.1];exact(List.getElem?_eq_some_iff.1 hj).1
 exact(h.2 j l[j] v (List.getElem?_eq_getElem hlt) hj).oneCell (h1 _ (List.getElem_mem _))
theorem Ba (h:Rel P w0 U Sz w){t:TypeId}{a a' x x':Value}{k:St->Bool} (hk:KM P t a x Sz k=true) (ha:VR U a a') (hx:VR U x x'):
 ∃S' w',k S'=true/\Rel P w0 U S' w'/\Stp U w U w'/\(Instr.storeAt t a' x').run P w= .ok () w':=by
 unfold KM at hk;split at hk
 ·rename_i i o
  cases ha with
  | flat h=>simp [aY]at h
  | ptr hL=>
   rename_i L;split at hk
   ·rename_i n hsz
    obtain⟨cs,hk,h1,hcs,_⟩:=wI hk hx;rw [jS]at hk;split at hk
    ·rename_i hn
     have hn':cs.length=n:=Nat.eq_of_beq_eq_true hn;obtain⟨S',w',hk',r1,r2,r3⟩:=yG h hk hL hcs (LX hcs h1);refine⟨S',w',hk',r1,r2,?_⟩;have hsz':x'.cells.size=n:=by rw [<-hn',hcs.1];rfl
     simp [Instr.storeAt,Instr.sureAddr,storeVar,fE hsz,hsz',r3]
    ·cases hk
   ·cases hk
 ·cases hk
theorem Rel.Un (h:Rel P w0 U Sz w){cs cs':List Value} (hcs:gW U cs cs') (t:TypeId) (m:Nat):
 Rel P w0 (U.put Sz.n ⟨w.heap.size,0,cs'.length,m⟩) (Sz.new (.cells cs t .exact)) (w.alloc (.cells ⟨cs'⟩ t))/\Stp U w (U.put Sz.n ⟨w.heap.size,0,cs'.length,m⟩) (w.alloc (.cells ⟨cs'⟩ t)):=by
 refine h.new _ _ _ rfl (fun U' he hU'=>⟨_,⟨cs'⟩,t,(0,0),hU',?_,fun j v hj=>?_,?_⟩) (by simp [fD.olds])
 ·show(w.heap.push _)[w.heap.size]? =_;simp
 ·obtain⟨v',hv',hr⟩:=hcs.get hj
  exact⟨v',by simpa using hv',hr.mono he⟩
 ·exact⟨h.base.size,rfl,hcs.1.symm,fun x _ hx=>by simp at hx,rfl⟩
theorem Rel.Eo (h:Rel P w0 U Sz w){cs cs' more:List Value} (hcs:gW U cs cs') (e:TypeId){m:Nat} (hm:bL P e=some m) (fz:Nat×Nat) (hfz:TO (cs'++more).length fz) (olds:List Nat)
 (hold:∀i∈olds,i<Sz.n/\∀x,Sz.obj i=some x->x= .dead\/∃ws e,x= .cells ws e .stale):
 Rel P w0 (U.put Sz.n ⟨w.heap.size,0,(cs'++more).length,m⟩) (Sz.new (.cells cs e (.grown olds))) (w.alloc (.cells ⟨cs'++more⟩ e fz))/\Stp U w (U.put Sz.n ⟨w.heap.size,0,(cs'++more).length,m⟩) (w.alloc (.cells ⟨cs'++more⟩ e fz)):=by
 refine h.new _ _ _ rfl (fun U' he hU'=>⟨_,⟨cs'++more⟩,e,fz,hU',?_,fun j v hj=>?_,?_⟩) hold
 ·show(w.heap.push _)[w.heap.size]? =_;simp
 ·obtain⟨v',hv',hr⟩:=hcs.get hj
  refine⟨v',?_,hr.mono he⟩;have hlt:j<cs'.length:=(List.getElem?_eq_some_iff.1 hv').1;have e1:(⟨cs'++more⟩:Array Value)[0+j]? =(cs'++more)[j]? :=by simp
  exact e1.trans (by rw [List.getElem?_append_left hlt];exact hv')
 ·exact⟨h.base.size,hfz,rfl,hm,rfl⟩
end mem
section mem
variable{P:Program}{w0:World}{U:Rn}{Sz:St}{w:World}
structure sJ (P:Program) (U:Rn) (A:aO) (a:Act):Prop where
 tmps:Fa U A.tmps a.tmps.toList
 g:A.g=P.globals.size
theorem aM (h:Rel P w0 U Sz w){A:aO}{a:Act} (hA:sJ P U A a){x:Operand}{k:Value->Bool} (hk:oN A x k=true):∃v,k v=true/\VR U v (a.eval x):=by
 obtain⟨v,hv,h1⟩:=Uu hk;refine⟨v,hv,?_⟩;rcases h1 with ⟨t,rfl,ht⟩ | ⟨rfl,hf⟩ | ⟨g,rfl,hg,rfl⟩ | ⟨f,rfl,rfl⟩
 ·obtain⟨v',hv',hr⟩:=hA.tmps.get ht
  have e:a.tmps.getD t undef=v':=by
   rw [Array.getElem?_toList]at hv';simp [Array.getD_eq_getD_getElem?,hv']
  show VR U v (a.tmps.getD t undef);rw [e];exact hr
 ·exact .fX hf
 ·obtain⟨L,h1,h2,h3⟩:=h.TM g (by rw [<-hA.g];exact hg)
  have:=VR.ptr (o:=0) h1;rw [h2,h3]at this;exact this
 ·exact .func rfl rfl (by simp) (by simp)
theorem sM (h:Rel P w0 U Sz w){A:aO}{a:Act} (hA:sJ P U A a):∀{xs:List Operand} {k:List Value->Bool},FV A xs k=true->∃vs,k vs=true/\gW U vs (xs.map a.eval):=by
 intro xs;induction xs with
 | nil=>intro k hk;exact⟨[],hk,.nil U⟩
 | cons x xs ih=>
  intro k hk;obtain⟨v,hv,hr⟩:=aM h hA (show oN A x (fun v=>FV A xs fun vs=>k (v::vs))=true from hk);obtain⟨vs,hvs,hrs⟩:=ih hv;exact⟨v::vs,hvs,.cons hr hrs⟩
theorem vU (h:Rel P w0 U Sz w){A:aO}{a:Act} (hA:sJ P U A a){x:Option Operand}{k:Option Value->Bool} (hk:KN A x k=true):
 ∃v,k v=true/\(v=none/\x=none\/∃u y,v=some u/\x=some y/\VR U u (a.eval y)):=by
 cases x with
 | none=>exact⟨none,hk,.inl ⟨rfl,rfl⟩⟩
 | some x=>obtain⟨v,hv,hr⟩:=aM h hA (show oN A x (fun v=>k (some v))=true from hk);exact⟨some v,hv,.inr ⟨v,x,rfl,rfl,hr⟩⟩
theorem Ey{A:aO}{a:Act} (hA:sJ P U A a){d:Option Tmp}{v v':Value} (hv:VR U v v'){k:aO->Bool} (hk:iE A d v k=true):
 ∃A',k A'=true/\sJ P U A' (a.put d v')/\A'.marks=A.marks:=by
 cases d with
 | none=>exact⟨A,hk,hA,rfl⟩
 | some d=>
  obtain⟨hd,hk⟩:=vT (show nQ v A.tmps d (fun ts=>k ⟨ts,A.marks,A.g⟩)=true from hk);exact⟨_,hk,⟨by simpa [Act.put]using hA.tmps.set hd hv,hA.g⟩,rfl⟩
theorem sJ.mono{U':Rn} (he:Ext U U'){A:aO}{a:Act} (h:sJ P U A a):sJ P U' A a:=⟨h.tmps.mono he,h.g⟩
theorem XG{t:TypeId}{a b a' b':Value}{k:Bool->Bool} (hk:pK P t a b k=true) (ha:VR U a a') (hb:VR U b b'):
 ∃e,k e=true/\aY a=true/\aY b=true/\lV P t=true/\∀(d:Nat) (w:World),(Op.equalIn (d+1) t a' b').run P w= .ok e w:=by
 unfold pK at hk;split at hk
 ·rename_i kd hu
  split at hk
  ·rename_i j x l y
   split at hk
   ·rename_i hj
    rw [kH,DK]at hk;have:=yW hj;subst this;rw [ha.of_flat rfl,hb.of_flat rfl];exact⟨_,hk,rfl,rfl,by simp [lV,hu],fun d w=>run_equalIn_int w d t j kd x y hu⟩
   ·cases hk
  ·cases hk
 ·rename_i hu
  split at hk
  ·rename_i x y
   rw [kH,DL,<-OX,<-OX]at hk;rw [ha.of_flat rfl,hb.of_flat rfl];exact⟨_,hk,rfl,rfl,by simp [lV,hu],fun d w=>run_equalIn_string w d t x y hu⟩
  ·cases hk
 ·rename_i hu
  split at hk
  ·rename_i x y
   rw [kH]at hk;rw [ha.of_flat rfl,hb.of_flat rfl];exact⟨_,hk,rfl,rfl,by simp [lV,hu],fun d w=>run_equalIn_bool' w d t x y hu⟩
  ·cases hk
 ·cases hk
theorem Kc{t:TypeId} (h:lV P t=true):pV P t=some false:=by
 unfold lV at h;unfold pV;split at h<;>rename_i hu<;>first | (rw [hu];rfl) | cases h
theorem GB{t:TypeId} (h:lV P t=true){cs:Array Value}{off:Nat}{v:Value} (hv:cs.toList[off]? =some v) (w:World):(part t cs off).run P w= .ok v w:=by
 rw [Array.getElem?_toList]at hv;simp [part,yV (Kc h),hv]
theorem UK:∀(fs:List Field) (i:Nat) (a b:List Value) (X Y:Array Value) (k:Bool->Bool),pX P i fs=true->BW P fs a b k=true->
 gW U a (X.toList.drop i)->gW U b (Y.toList.drop i)->∃e,k e=true/\∀(d:Nat) (w:World),(Op.eqFields (d+1) X Y fs).run P w= .ok e w:=by
 intro fs;induction fs with
 | nil=>intro i a b X Y k _ hk _ _;exact⟨true,hk,fun d w=>rfl⟩
 | cons f fs ih=>
  intro i a b X Y k hp hk ha hb;simp only [pX,Bool.and_eq_true,beq_iff_eq,bne_iff_ne]at hp;obtain⟨⟨⟨hname,hoff⟩,hpl⟩,hrest⟩:=hp;cases a with
  | nil=>cases hk
  | cons x a=>
   cases b with
   | nil=>cases hk
   | cons y b=>
    have hk':pK P f.type x y (fun e=>match e with | true=>BW P fs a b k | false=>k false)=true:=hk;obtain⟨x',tx,ex,hx,htx⟩:=ha.cI;obtain⟨y',ty,ey,hy,hty⟩:=hb.cI;obtain⟨e,he,_,_,_,hrun⟩:=XG hk' hx hy;have gx:X.toList[i]? =some x':=by have:=congrArg (·[0]?) ex;simpa [List.getElem?_drop]using this
    have gy:Y.toList[i]? =some y':=by have:=congrArg (·[0]?) ey;simpa [List.getElem?_drop]using this
    have dx:X.toList.drop (i+1)=tx:=by have:=congrArg List.tail ex;simpa [List.tail_drop]using this
    have dy:Y.toList.drop (i+1)=ty:=by have:=congrArg List.tail ey;simpa [List.tail_drop]using this
    cases e with
    | false=>
     refine⟨false,he,fun d w=>?_⟩;simp [Op.eqFields,hname,hoff,GB hpl gx,GB hpl gy,hrun]
    | true=>
     obtain⟨e,he,hr⟩:=ih (i+1) a b X Y k hrest he (by rw [dx];exact htx) (by rw [dy];exact hty);refine⟨e,he,fun d w=>?_⟩;simp [Op.eqFields,hname,hoff,GB hpl gx,GB hpl gy,hrun,hr]
theorem wR{t:TypeId}{fs:List Field} (h:DI P t=some fs):P.underlying t=some (.struct (P.fieldsOf t))/\(P.fieldsOf t).toList=fs/\pX P 0 fs=true/\P.stoodInHeld t=false/\P.eqGuardType P.depth t=false:=by
 unfold DI at h;split at h
 ·rename_i gs hu
  split at h
  ·rename_i hc
   injection h with h;simp only [Bool.and_eq_true,Bool.not_eq_true']at hc;have e:P.fieldsOf t=gs:=by simp [Program.fieldsOf,hu]
   rw [e];exact⟨hu,h,by rw [<-h];exact hc.1.1,hc.1.2,hc.2⟩
  ·cases h
 ·cases h
section aHd
variable (w:World) (d:Nat){t:TypeId}
theorem aHe{e:TypeId} (h:P.underlying t=some (.pointer e)) (a:Addr):(Op.equalIn (d+1) t (.pointer (some a)) (.pointer none)).run P w= .ok false w:=by simp [Op.equalIn,run_underlying h]
theorem aHf{e:TypeId} (h:P.underlying t=some (.pointer e)) (a:Addr):(Op.equalIn (d+1) t (.pointer none) (.pointer (some a))).run P w= .ok false w:=by simp [Op.equalIn,run_underlying h]
theorem aHg{e:TypeId} (h:P.underlying t=some (.pointer e)):(Op.equalIn (d+1) t (.pointer none) (.pointer none)).run P w= .ok true w:=by simp [Op.equalIn,run_underlying h]
theorem aHh{e:TypeId} (h:P.underlying t=some (.slice e)) (a:Addr) (n c m q:Nat):(Op.equalIn (d+1) t (.slice (some a) n c) (.slice none m q)).run P w= .ok false w:=by simp [Op.equalIn,run_underlying h]
theorem aHi{e:TypeId} (h:P.underlying t=some (.slice e)) (a:Addr) (n c m q:Nat):(Op.equalIn (d+1) t (.slice none m q) (.slice (some a) n c)).run P w= .ok false w:=by simp [Op.equalIn,run_underlying h]
theorem aHj{e:TypeId} (h:P.underlying t=some (.slice e)) (n c m q:Nat):(Op.equalIn (d+1) t (.slice none m q) (.slice none n c)).run P w= .ok true w:=by simp [Op.equalIn,run_underlying h]
theorem aHk{e f:TypeId} (h:P.underlying t=some (.map e f)) (a:Nat):(Op.equalIn (d+1) t (.map (some a)) (.map none)).run P w= .ok false w:=by simp [Op.equalIn,run_underlying h]
theorem aHl{e f:TypeId} (h:P.underlying t=some (.map e f)) (a:Nat):(Op.equalIn (d+1) t (.map none) (.map (some a))).run P w= .ok false w:=by simp [Op.equalIn,run_underlying h]
theorem aHm{e f:TypeId} (h:P.underlying t=some (.map e f)):(Op.equalIn (d+1) t (.map none) (.map none)).run P w= .ok true w:=by simp [Op.equalIn,run_underlying h]
theorem aFu{e f:Array TypeId}{v:Bool} (h:P.underlying t=some (.func e f v)) (a:Fn) (x y:Array Value):(Op.equalIn (d+1) t (.func a x y) .nilFunc).run P w= .ok false w:=by simp [Op.equalIn,run_underlying h]
theorem aFv{e f:Array TypeId}{v:Bool} (h:P.underlying t=some (.func e f v)) (a:Fn) (x y:Array Value):(Op.equalIn (d+1) t .nilFunc (.func a x y)).run P w= .ok false w:=by simp [Op.equalIn,run_underlying h]
theorem aFw{e f:Array TypeId}{v:Bool} (h:P.underlying t=some (.func e f v)):(Op.equalIn (d+1) t .nilFunc .nilFunc).run P w= .ok true w:=by simp [Op.equalIn,run_underlying h]
theorem aFx{m:Array (String×TypeId)} (h:P.underlying t=some (.interface m)) (u:TypeId) (x:Value):(Op.equalIn (d+1) t (.iface u x) .nilIface).run P w= .ok false w:=by simp [Op.equalIn,run_underlying h]
theorem aFy{m:Array (String×TypeId)} (h:P.underlying t=some (.interface m)) (u:TypeId) (x:Value):(Op.equalIn (d+1) t .nilIface (.iface u x)).run P w= .ok false w:=by simp [Op.equalIn,run_underlying h]
end aHd
def Look:Value->Value->Prop
 | .pointer (some _),v'=>∃a,v'= .pointer (some a)
 | .slice (some _) _ _,v'=>∃a:Addr×Nat×Nat,v'= .slice (some a.1) a.2.1 a.2.2
 | .map (some _),v'=>∃b,v'= .map (some b)
 | .func _ _ _,v'=>∃a:Fn×Array Value×Array Value,v'= .func a.1 a.2.1 a.2.2
 | .iface t _,v'=>∃u,v'= .iface t u
 | .pointer none,v'=>∃_:Unit,v'= .pointer none
 | .slice none n c,v'=>∃_:Unit,v'= .slice none n c
 | .map none,v'=>∃_:Unit,v'= .map none
 | .nilFunc,v'=>∃_:Unit,v'= .nilFunc
 | .nilIface,v'=>∃_:Unit,v'= .nilIface
 | _,_=>True
theorem VR.look{v v':Value} (h:VR U v v'):Look v v':=by
 cases h with
 | flat h=>
  cases v
  case pointer a=>cases a with | none=>exact⟨(),rfl⟩ | some a=>simp [aY]at h
  case slice a n c=>cases a with | none=>exact⟨(),rfl⟩ | some a=>simp [aY]at h
  case map a=>cases a with | none=>exact⟨(),rfl⟩ | some a=>simp [aY]at h
  case func=>simp [aY]at h
  case iface=>simp [aY]at h
  case nilFunc=>exact⟨(),rfl⟩
  case nilIface=>exact⟨(),rfl⟩
  all_goals trivial
 | ptr _=>exact⟨_,rfl⟩
 | slice _=>exact⟨(_,_,_),rfl⟩
 | mN _ _ _ _ _=>exact⟨(_,_,_),rfl⟩
 | uC=>exact⟨(_,_,_),rfl⟩
 | uD _=>exact⟨(_,_,_),rfl⟩
 | map _=>exact⟨_,rfl⟩
 | func _ _ _ _=>exact⟨(_,_,_),rfl⟩
 | yield _=>exact⟨(_,_,_),rfl⟩
 | meth _=>exact⟨(_,_,_),rfl⟩
 | iface _=>exact⟨_,rfl⟩
 | agg _ _=>trivial
 | tuple _ _=>trivial
theorem DM{t:TypeId}{a b a' b':Value}{k:Bool->Bool} (hk:lW P t a b k=true) (ha:VR U a a') (hb:VR U b b'):
 ∃e,k e=true/\(∀(w:World),(Op.equal t a' b').run P w= .ok e w)/\(∀(op:BinOp) (x y:Operand) (w:World),(eqGuard op t x y a' b').run P w= .ok () w):=by
 have guard:∀(op:BinOp) (x y:Operand) (w:World),(∀xs,a'≠ .agg xs)->(a'= .nilIface->b'≠ .nilIface)->(eqGuard op t x y a' b').run P w= .ok () w:=by
  intro op x y w h1 h2;unfold eqGuard;cases op<;>cases a'<;>cases b'<;>first | rfl | exact absurd rfl (h1 _) | exact absurd rfl (h2 rfl)
 unfold lW at hk;split at hk
 ·rename_i xs ys
  split at hk
  ·rename_i fs hfs
   obtain⟨h1,h2,h3,h4,h5⟩:=wR hfs;obtain⟨xs',rfl,hx⟩:=ha.AS;obtain⟨ys',rfl,hy⟩:=hb.AS;obtain⟨e,he,hr⟩:=UK fs 0 _ _ xs' ys' k h3 hk (by simpa using hx) (by simpa using hy);refine⟨e,he,fun w=>?_,fun op x y w=>run_eqGuard_agg w op t x y xs' ys' h5⟩;show(Op.equalIn (9999+1) t _ _).run P w=_;rw [run_equalIn_struct w 9999 t xs' ys' h1 h4,h2];exact hr 9998 w
  ·cases hk
 all_goals first
  | cases hk;done
  | (split at hk<;>first
   | cases hk;done
   | (rename_i hu
      rw [kH]at hk;have ea:=ha.of_flat rfl;have eb:=hb.of_flat rfl;rw [ea,eb]at guard;rw [ea,eb];exact⟨_,hk,fun w=>run_equal_bool w t _ _ hu,fun op x y w=>guard op x y w (by simp) (by simp)⟩)
   | (rename_i hu
      obtain⟨_,ea⟩:=ha.look;obtain⟨_,eb⟩:=hb.look;refine⟨_,hk,fun w=>?_,fun op x y w=>guard op x y w ?_ ?_⟩
      ·show(Op.equalIn (9999+1) t _ _).run P w=_
       rw [ea,eb]
       first
        | exact aHe w 9999 hu _ | exact aHf w 9999 hu _ | exact aHg w 9999 hu | exact aHh w 9999 hu _ _ _ _ _ | exact aHi w 9999 hu _ _ _ _ _ | exact aHj w 9999 hu _ _ _ _ | exact aHk w 9999 hu _ | exact aHl w 9999 hu _
        | exact aHm w 9999 hu | exact aFu w 9999 hu _ _ _ | exact aFv w 9999 hu _ _ _ | exact aFw w 9999 hu | exact aFx w 9999 hu _ _ | exact aFy w 9999 hu _ _
      ·intro xs e;rw [ea]at e;cases e
      ·intro e e2;rw [ea]at e;rw [eb]at e2;first | (cases e;done) | (cases e2;done)))
end mem
section mem
variable{P:Program}{w0:World}{U:Rn}{Sz:St}{w:World}
def numeric:Value->Bool
 | .int _ _ | .float _ _ | .complex _ _ _ | .string _=>true
 | _=>false
theorem VR.numeric{v v':Value} (h:VR U v v'):numeric v'=numeric v:=by cases h<;>rfl
theorem MM{t:TypeId}{a b:Value}{k:Bool->Bool} (hk:lW P t a b k=true):numeric a=false:=by
 cases a<;>first | rfl | (unfold lW at hk;cases hk)
theorem binOp_eql{t:TypeId}{a b:Value} (h:numeric a=false):binOp .eql t a b=(do pure (.bool (<-Op.equal t a b))):=by
 cases a<;>cases b<;>first | rfl | (simp [numeric]at h)
theorem binOp_neq{t:TypeId}{a b:Value} (h:numeric a=false):binOp .neq t a b=(do pure (.bool (!(<-Op.equal t a b)))):=by
 cases a<;>cases b<;>first | rfl | (simp [numeric]at h)
theorem YQ (op:BinOp) (t:TypeId) (x y:Operand){a b:Value} (ha:numeric a=true) (w:World):(eqGuard op t x y a b).run P w= .ok () w:=by
 unfold eqGuard;cases op<;>cases a<;>first | (simp [numeric]at ha;done) | (cases b<;>rfl)
theorem TS{op:BinOp}{t:TypeId}{a b a' b':Value}{K:Value->Bool} (hk:RM P op t a b K=true) (ha:VR U a a') (hb:VR U b b'):
 ∃v,K v=true/\aY v=true/\∀(x y:Operand) (w:World),((do eqGuard op t x y a' b';binOp op t a' b'):Sem Value).run P w= .ok v w:=by
 unfold RM at hk;split at hk
 ·rename_i k x k' y
  rw [ha.of_flat rfl,hb.of_flat rfl]
  have fin:∀v,K v=true->aY v=true->(∀(P:Program) (t:TypeId) (w:World),(binOp op t (.int k x) (.int k' y)).run P w= .ok v w)->∃v,K v=true/\aY v=true/\∀(x' y':Operand) (w:World),((do eqGuard op t x' y' (.int k x) (.int k' y);binOp op t (.int k x) (.int k' y)):Sem Value).run P w= .ok v w:=
   fun v h1 h2 h3=>⟨v,h1,h2,fun x' y' w=>by rw [Sem.run_bind,YQ op t x' y' rfl];exact h3 P t w⟩
  split at hk
  ·obtain⟨v,h1,h2,h3⟩:=MG (k':=k') hk;exact fin v h1 h2 h3
  ·obtain⟨v,h1,h2,h3⟩:=MG (k':=k') hk;exact fin v h1 h2 h3
  ·split at hk
   ·rename_i hj
    have:=yW hj;subst this;obtain⟨v,h1,h2,_,_,h3⟩:=XC hk;exact fin v h1 h2 h3
   ·cases hk
 ·rename_i x y
  rw [ha.of_flat rfl,hb.of_flat rfl];obtain⟨v,h1,h2,h3⟩:=XD hk;exact⟨v,h1,h2,fun x' y' w=>by rw [Sem.run_bind,YQ op t x' y' rfl];exact h3 P t w⟩
 ·split at hk
  ·have hs:=MM hk
   obtain⟨e,he,h1,h2⟩:=DM hk ha hb;rw [oP]at he;exact⟨_,he,rfl,fun x y w=>by rw [Sem.run_bind,h2,Result.andThen_ok,binOp_eql (by rw [ha.numeric,hs])];simp [h1]⟩
  ·have hs:=MM hk
   obtain⟨e,he,h1,h2⟩:=DM hk ha hb;rw [oP]at he;exact⟨_,he,rfl,fun x y w=>by rw [Sem.run_bind,h2,Result.andThen_ok,binOp_neq (by rw [ha.numeric,hs])];simp [h1]⟩
  ·cases hk
theorem YK{op:UnOp}{a a':Value}{K:Value->Bool} (hk:unK op a K=true) (ha:VR U a a'):
 ∃v,K v=true/\aY v=true/\∀(w:World),(Op.unary op a').run P w= .ok v w:=by
 unfold unK at hk;split at hk
 ·rw [Bj]at hk
  rw [ha.of_flat rfl];exact⟨_,hk,rfl,fun w=>rfl⟩
 ·rw [jA]at hk
  rw [ha.of_flat rfl];exact⟨_,hk,rfl,fun w=>rfl⟩
 ·rw [oP]at hk
  rw [ha.of_flat rfl];exact⟨_,hk,rfl,fun w=>rfl⟩
 ·cases hk
theorem OY{d:Nat}{x:Option Value}{k:Nat->Bool} (hk:Qm d x k=true):∃n,k n=true/\(x=none/\n=d\/∃kd,x=some (.int kd (.ofNat n))):=by
 unfold Qm at hk;split at hk
 ·exact⟨d,hk,.inl ⟨rfl,rfl⟩⟩
 ·rename_i kd n;exact⟨n,hk,.inr ⟨kd,rfl⟩⟩
 ·cases hk
def RO (U:Rn) (x x':Option Value):Prop:=(x=none/\x'=none)\/∃v v',x=some v/\x'=some v'/\VR U v v'
theorem RO.int{x x':Option Value} (h:RO U x x'){kd:IntKind}{n:Nat} (e:x=some (.int kd (.ofNat n))):x'=some (.int kd (.ofNat n)):=by
 rcases h with ⟨h,_⟩ | ⟨v,v',h1,h2,hr⟩
 ·rw [e]at h;cases h
 ·rw [e]at h1;injection h1 with h1;subst h1
  rw [h2,hr.of_flat rfl]
theorem RO.none{x x':Option Value} (h:RO U x x') (e:x=none):x'=none:=by
 rcases h with ⟨_,h⟩ | ⟨v,v',h1,_⟩
 ·exact h
 ·rw [e]at h1;cases h1
theorem wN{len cap:Nat}{lo hi mx lo' hi' mx':Option Value}{k:Nat->Nat->Nat->Bool} (hk:DH len cap lo hi mx k=true)
 (hl:RO U lo lo') (hh:RO U hi hi') (hm:RO U mx mx'):
 ∃l h m,k l h m=true/\l<=h/\h<=m/\m<=cap/\(mx=none->m=cap)/\∀(cap':Nat),cap<=cap'->(mx'=none->mx=none)->∀(isSlice:Bool) (w:World),(mx'=none\/hi'≠none)->
  (Instr.sliceBounds isSlice len cap' lo' hi' mx').run P w= .ok (l,h,if mx'=none then cap' else m) w:=by
 unfold DH at hk;obtain⟨m,hk,em⟩:=OY hk;obtain⟨h,hk,eh⟩:=OY hk;obtain⟨l,hk,el⟩:=OY hk;split at hk
 ·rename_i h1 h2 h3
  have h1:=Nat.le_of_ble_eq_true h1;have h2:=Nat.le_of_ble_eq_true h2;have h3:=Nat.le_of_ble_eq_true h3;refine⟨l,h,m,hk,h1,h2,h3,fun e=>?_,fun cap' hc hmm isS w hhi=>?_⟩
  ·rcases em with ⟨_,e'⟩ | ⟨kd,e'⟩
   ·exact e'
   ·rw [e]at e';cases e'
  ·have Rj:(match lo' with | some v=>Instr.sliceBound v h (if mx'.isSome then .slice3C else .sliceB) | none=>(pure 0:Sem Nat)).run P w= .ok l w:=by
    rcases el with ⟨e,e'⟩ | ⟨kd,e⟩
    ·rw [hl.none e,e'];rfl
    ·rw [hl.int e];simp [Instr.sliceBound,asIntOf,h1]
   rcases em with ⟨e,e'⟩ | ⟨kd,e⟩
   ·have emx:=hm.none e
    subst emx
    have ehi:(match hi' with | some v=>Instr.sliceBound v cap' (if isS then .sliceAcap else .sliceAlen) | none=>(pure len:Sem Nat)).run P w= .ok h w:=by
     rcases eh with ⟨e2,e2'⟩ | ⟨kd2,e2⟩
     ·rw [hh.none e2,e2'];rfl
     ·rw [hh.int e2];simp [Instr.sliceBound,asIntOf];omega
    unfold Instr.sliceBounds;cases hi' with
    | none=>
     simp at ehi;cases lo' with
     | none=>simp at Rj;simp [Rj,ehi]
     | some u=>simp at Rj;simp [Rj,ehi]
    | some v=>
     simp at ehi;cases lo' with
     | none=>simp at Rj;simp [Rj,ehi]
     | some u=>simp at Rj;simp [Rj,ehi]
   ·have emx:=hm.int e
    subst emx;have aHn:hi'≠none:=by rcases hhi with h | h;cases h;exact h
    rcases eh with ⟨e2,_⟩ | ⟨kd2,e2⟩
    ·exact absurd (hh.none e2) aHn
    ·have ehi:=hh.int e2
     subst ehi;simp only [Option.isSome_some,if_true]at Rj;have r1:(Instr.sliceBound (.int kd (.ofNat m)) cap' (if isS then .slice3Acap else .slice3Alen)).run P w= .ok m w:=by simp [Instr.sliceBound,asIntOf];omega
     have r2:(Instr.sliceBound (.int kd2 (.ofNat h)) m .slice3B).run P w= .ok h w:=by simp [Instr.sliceBound,asIntOf];omega
     unfold Instr.sliceBounds;cases lo' with
     | none=>
      simp at Rj;simp only [Sem.run_bind,r1,Result.andThen_ok,r2,Sem.run_pure];simp [Rj]
     | some u=>
      simp only at Rj;simp only [Sem.run_bind,r1,Result.andThen_ok,r2,Sem.run_pure,Option.isSome_some,if_true,Rj];simp
 ·cases hk
end mem
section mem
variable{P:Program}{w0:World}{U:Rn}{Sz:St}{w:World}
theorem dR{t e:TypeId} (h:isSlice P t=some e):P.underlying t=some (.slice e):=by
 unfold isSlice at h;split at h
 ·rename_i hu;injection h with h;subst h;exact hu
 ·cases h
theorem Gd (s:ByteArray) (l h:Nat) (_:h<=s.size):s.extract l h=⟨⟨(s.data.toList.take h).drop l⟩⟩:=by
 apply ByteArray.ext;apply Array.toList_inj.1;simp [ByteArray.data_extract,Array.toList_extract,List.extract_eq_take_drop,List.drop_take]
theorem LY (h:Rel P w0 U Sz w){t:TypeId}{x x':Value}{lo hi mx lo' hi' mx':Option Value}{K:Value->Bool} (hk:nZ P t x lo hi mx Sz K=true)
 (hx:VR U x x') (hl:RO U lo lo') (hh:RO U hi hi') (hm:RO U mx mx') (hmh:mx'=none\/hi'≠none):
 ∃v v',K v=true/\VR U v v'/\∀w,(Instr.sliceAt t x' lo' hi' mx').run P w= .ok v' w:=by
 have hmm:mx'=none->mx=none:=fun e=>by
  rcases hm with ⟨h,_⟩ | ⟨_,_,_,h,_⟩
  ·exact h
  ·rw [e]at h;cases h
 unfold nZ at hk;split at hk
 ·
   rename_i s;split at hk
   ·rename_i hu
    rw [hx.of_flat rfl];rw [jS]at hk;obtain⟨l,h',m,hk,h1,h2,h3,h4,hrun⟩:=wN (P:=P) hk hl hh (.inl ⟨rfl,rfl⟩);rw [wQ]at hk;have hsz:s.data.toList.length=s.size:=rfl;split at hk
    ·rename_i hle
     rw [uE]at hk;split at hk
     ·refine⟨_,_,hk,.flat rfl,fun w=>?_⟩
      have e1:=hm.none rfl;subst e1;have:=hrun s.data.toList.length (Nat.le_refl _) (fun _=>rfl) false w (.inl rfl);rw [hsz]at this;simp only [if_true]at this;simp [Instr.sliceAt,run_underlying hu,Instr.slice,this,Gd s l h' (by omega)]
     ·cases hk
    ·cases hk
   ·cases hk
 ·
   rename_i len cap;split at hk
   ·rename_i e he
    have hu:=dR he;split at hk
    ·rename_i size hsz
     rw [hx.of_flat rfl];obtain⟨l,h',m,hk',h1,h2,h3,h4,hrun⟩:=wN (P:=P) hk hl hh hm;simp only [aT]at hk';refine⟨_,.slice none (h'-l) (m-l),hk',.flat rfl,fun w=>?_⟩;have:=hrun cap (Nat.le_refl _) hmm true w hmh
     have em:(if mx'=none then cap else m)=m:=by
      split
      ·rename_i e2;exact(h4 (hmm e2)).symm
      ·rfl
     rw [em]at this;simp [Instr.sliceAt,run_underlying hu,Instr.slice,this,fE hsz]
    ·cases hk
   ·cases hk
 ·
   rename_i i o sp len cap;split at hk
   ·rename_i e he
    have hu:=dR he;split at hk
    ·rename_i size hsz
     obtain⟨l,h',m,hk',h1,h2,h3,h4,hrun⟩:=wN (P:=P) hk hl hh hm;simp only [aT]at hk';clear hk
     have go:∀(a:Addr) (cap':Nat),cap<=cap'->∀w,(Instr.sliceAt t (.slice (some a) len cap') lo' hi' mx').run P w=
      .ok (.slice (some (if(if mx'=none then cap' else m)=l then a else a.add (l*size))) (h'-l) ((if mx'=none then cap' else m)-l)) w:=by
      intro a cap' hc w;have:=hrun cap' hc hmm true w hmh;have e1:∀(q:Nat),(if q=l then some a else some (a.add (l*size)))=some (if q=l then a else a.add (l*size)):=fun q=>by split<;>rfl
      simp [Instr.sliceAt,run_underlying hu,Instr.slice,this,fE hsz,e1]
     cases hx with
     | flat h=>simp [aY]at h
     | @slice _ _ _ _ L hL=>
      have em:(if mx'=none then cap else m)=m:=by
       split
       ·rename_i e2;exact(h4 (hmm e2)).symm
       ·rfl
      have hgo:=go ⟨L.b,L.s+o,none⟩ cap (Nat.le_refl _);simp only [em]at hgo
      replace hk':(match Nat.beq m l with | true=>K (.slice (some ⟨i,o,none⟩) (h'-l) (m-l)) | false=>K (.slice (some ⟨i,o+l*size,none⟩) (h'-l) (m-l)))=true:=hk'
      split at hk'
      ·rename_i hml
       have hml:=Nat.eq_of_beq_eq_true hml;exact⟨_,_,hk',.slice hL,fun w=>by rw [hgo w,if_pos hml]⟩
      ·rename_i hml
       have hml:m≠l:=fun e=>by subst e;simp at hml
       exact⟨_,_,hk',.slice hL,fun w=>by rw [hgo w,if_neg hml,lN,Nat.add_assoc]⟩
     | @mN _ _ _ _ c' L hL hc hn hend hmp=>
      have hgo:=go ⟨L.b,L.s+o,none⟩ c' hc;cases mx with
      | some y=>
       have hne:mx'≠none:=fun e=>by have:=hmm e;cases this
       simp only [if_neg hne]at hgo
       replace hk':(match Nat.beq m l with | true=>K (.slice (some ⟨i,o,none⟩) (h'-l) (m-l)) | false=>K (.slice (some ⟨i,o+l*size,none⟩) (h'-l) (m-l)))=true:=hk'
       split at hk'
       ·rename_i hml
        have hml:=Nat.eq_of_beq_eq_true hml;exact⟨_,_,hk',.slice hL,fun w=>by rw [hgo w,if_pos hml]⟩
       ·rename_i hml
        have hml:m≠l:=fun e=>by subst e;simp at hml
        exact⟨_,_,hk',.slice hL,fun w=>by rw [hgo w,if_neg hml,lN,Nat.add_assoc]⟩
      | none=>
       have he':=hm.none rfl;subst he';simp only [if_true]at hgo;have hm':=h4 rfl;subst hm'
       replace hk':(match Nat.beq m l with | true=>K (.slice (some ⟨i,0,some 1⟩) 0 0) | false=>(tZ Sz i fun _ e ck=>match ck,bL P e with | .exact,_=>false | _,some q=>(match Nat.beq q size with | true=>K (.slice (some ⟨i,o+l*size,some 0⟩) (h'-l) (m-l)) | false=>false) | _,none=>false))=true:=hk'
       split at hk'
       ·rename_i hml
        have hml:=Nat.eq_of_beq_eq_true hml;have e0:h'-l=0:=by omega
        refine⟨_,.slice (some (if c'=l then⟨L.b,L.s+o,none⟩else(⟨L.b,L.s+o,none⟩:Addr).add (l*size))) 0 (c'-l),hk',.uC,fun w=>?_⟩;rw [hgo w,e0]
       ·rename_i hml
        have hml:m≠l:=fun e=>by subst e;simp at hml
        obtain⟨vs,e',ck,ho,hk'⟩:=wS hk';obtain⟨cs,tt,fz,hb,_,hkind⟩:=h.cells ho hL;cases hq:bL P e' with
        | none=>rw [hq]at hk';cases ck<;>cases hk'
        | some q=>
         rw [hq]at hk';have hne:ck≠ .exact:=by rintro rfl;cases hk'
         have hk2:(match Nat.beq q size with | true=>K (.slice (some ⟨i,o+l*size,some 0⟩) (h'-l) (m-l)) | false=>false)=true:=by cases ck<;>first | exact hk' | exact absurd rfl hne
         split at hk2
         ·rename_i hqs
          have hqs:=Nat.eq_of_beq_eq_true hqs;subst hqs
          have hm:L.m=q:=by
           cases ck with
           | exact=>exact absurd rfl hne
           | grown _=>obtain⟨_,_,_,h5,_⟩:=hkind;rw [hq]at h5;injection h5 with h5;exact h5.symm
           | stale=>obtain⟨_,h5,_⟩:=hkind;rw [hq]at h5;injection h5 with h5;exact h5.symm
           | ro=>have h5:bL P e'=some L.m:=hkind;rw [hq]at h5;injection h5 with h5;exact h5.symm
           | rs=>have h5:=hkind.1;rw [hq]at h5;injection h5 with h5;exact h5.symm
          refine⟨_,.slice (some ⟨L.b,L.s+(o+l*q),none⟩) (h'-l) (c'-l),hk2,(.mN hL (by omega) (by omega) ?_ hmp),fun w=>by rw [hgo w,if_neg (by omega),lN,Nat.add_assoc]⟩;rw [hm]at hend ⊢;have:l*q+(c'-l)*q=c'*q:=by rw [<-Nat.add_mul];congr 1;omega
          omega
         ·cases hk2
     | @uC _ c' a=>
      have e0:l=0/\h'=0/\m=0:=by omega
      obtain⟨rfl,rfl,rfl⟩:=e0;have hgo:=go a c' (Nat.zero_le _)
      replace hk':K (.slice (some ⟨i,0,some 1⟩) 0 0)=true:=hk'
      refine⟨_,.slice (some a) 0 ((if mx'=none then c' else 0)-0),hk',.uC,fun w=>?_⟩;rw [hgo w];simp [Addr.add]
     | @uD _ _ s sp2 hs2=>
      have e0:l=0/\h'=0/\m=0:=by omega
      obtain⟨rfl,rfl,rfl⟩:=e0;have hgo:=go ⟨i,o,sp2⟩ 0 (Nat.zero_le _)
      replace hk':K (.slice (some ⟨i,0,some 1⟩) 0 0)=true:=hk'
      refine⟨_,.slice (some ⟨i,o,sp2⟩) 0 ((if mx'=none then 0 else 0)-0),hk',.uC,fun w=>?_⟩;rw [hgo w];simp []
    ·cases hk
   ·cases hk
 ·
   rename_i i o;split at hk
   ·rename_i n e hu
    split at hk
    ·rename_i size hsz
     obtain⟨l,h',m,hk',h1,h2,h3,h4,hrun⟩:=wN (P:=P) hk hl hh hm;simp only [aT]at hk';clear hk
     have em:(if mx'=none then n else m)=m:=by
      split
      ·rename_i e2;exact(h4 (hmm e2)).symm
      ·rfl
     cases hx with
     | flat h=>simp [aY]at h
     | @ptr _ _ L hL=>
      have hgo:∀w,(Instr.sliceAt t (.pointer (some ⟨L.b,L.s+o,none⟩)) lo' hi' mx').run P w= .ok (.slice (some (if m=l then⟨L.b,L.s+o,none⟩else(⟨L.b,L.s+o,none⟩:Addr).add (l*size))) (h'-l) (m-l)) w:=by
       intro w;have:=hrun n (Nat.le_refl _) hmm false w hmh;rw [em]at this;simp [Instr.sliceAt,run_underlying hu,Instr.sureAddr,this,fE hsz]
      split at hk'
      ·rename_i hml
       have hml:=Nat.eq_of_beq_eq_true hml;exact⟨_,_,hk',.slice hL,fun w=>by rw [hgo w,if_pos hml]⟩
      ·rename_i hml
       have hml:m≠l:=fun e=>by subst e;simp at hml
       exact⟨_,_,hk',.slice hL,fun w=>by rw [hgo w,if_neg hml,lN,Nat.add_assoc]⟩
    ·cases hk
   ·cases hk
 ·cases hk
end mem
section mem
variable{P:Program}{w0:World}{U:Rn}{Sz:St}{w:World}
theorem VR.iI{i o:Nat}{sp:Option Nat}{n c:Nat}{v':Value} (h:VR U (.slice (some ⟨i,o,sp⟩) n c) v'):
 (∃L c',U i=some L/\v'= .slice (some ⟨L.b,L.s+o,none⟩) n c'/\((sp=none/\c'=c)\/(sp=some 0/\c<=c'/\n<=c/\L.s+o+c'*L.m=L.e/\0<L.m)))\/((∃s,sp=some (s+1))/\n=0/\c=0/\∃a c',v'= .slice (some a) 0 c'):=by
 cases h with
 | flat h=>simp [aY]at h
 | slice hL=>exact .inl ⟨_,_,hL,rfl,.inl ⟨rfl,rfl⟩⟩
 | mN hL hc hn he hm=>exact .inl ⟨_,_,hL,rfl,.inr ⟨rfl,hc,hn,he,hm⟩⟩
 | uC=>exact .inr ⟨⟨_,rfl⟩,rfl,rfl,_,_,rfl⟩
 | uD _=>exact .inr ⟨⟨_,rfl⟩,rfl,rfl,_,_,rfl⟩
theorem VR.yD{i o:Nat}{sp:Option Nat}{v':Value} (h:VR U (.pointer (some ⟨i,o,sp⟩)) v'):sp=none/\∃L,U i=some L/\v'= .pointer (some ⟨L.b,L.s+o,none⟩):=by
 cases h with
 | flat h=>simp [aY]at h
 | ptr hL=>exact⟨rfl,_,hL,rfl⟩
theorem BX{t:TypeId}{x x' ix ix':Value}{K:Value->Bool} (hk:vO P t x ix K=true) (hx:VR U x x') (hi:VR U ix ix'):
 ∃v v',K v=true/\VR U v v'/\∀w,(Instr.indexAt t x' ix').run P w= .ok v' w:=by
 unfold vO at hk;split at hk
 ·rename_i kd j
  rw [hi.of_flat rfl];split at hk
  ·rename_i b o sp len c
   rcases hx.iI with ⟨L,c',hL,rfl,hsp⟩ | ⟨⟨_,rfl⟩,_⟩
   ·have hk2:(match isSlice P t with
     | some elem=>(match bL P elem,Nat.blt j len with
      | some size,true=>bA (o+j*size) fun o=>K (.pointer (some ⟨b,o,none⟩))
      | _,_=>false)
     | none=>false)=true:=by
     rcases hsp with ⟨rfl,_⟩ | ⟨rfl,_⟩<;>exact hk
    split at hk2
    ·rename_i e he
     have hu:=dR he;split at hk2
     ·rename_i size hsz hj
      have hj:j<len:=Nat.le_of_ble_eq_true hj;rw [aT]at hk2;refine⟨_,_,hk2,.ptr hL,fun w=>?_⟩;simp [Instr.indexAt,asIntOf,run_underlying hu,hj,fE hsz,lN,Nat.add_assoc]
     ·cases hk2
    ·cases hk2
   ·cases hk
  ·rename_i b o
   obtain⟨_,L,hL,rfl⟩:=hx.yD;split at hk
   ·rename_i len e hu
    split at hk
    ·rename_i size hsz hj
     have hj:j<len:=Nat.le_of_ble_eq_true hj;rw [aT]at hk;refine⟨_,_,hk,.ptr hL,fun w=>?_⟩;simp [Instr.indexAt,asIntOf,run_underlying hu,Instr.sureAddr,hj,fE hsz,lN,Nat.add_assoc]
    ·cases hk
   ·cases hk
  ·cases hk
 ·cases hk
theorem LP{s:TypeId}{f:Nat}{fd:Field} (h:uA P s f=some fd):∃fs,P.underlying s=some (.struct fs)/\fs[f]? =some fd:=by
 unfold uA at h;split at h
 ·rename_i fs hu;exact⟨fs,hu,h⟩
 ·cases h
theorem BY{s:TypeId}{x x':Value}{f:Nat}{K:Value->Bool} (hk:vP P s x f K=true) (hx:VR U x x'):
 ∃v v',K v=true/\VR U v v'/\∀w,(Instr.fieldAt s x' f).run P w= .ok v' w:=by
 unfold vP at hk;split at hk
 ·rename_i b o
  obtain⟨_,L,hL,rfl⟩:=hx.yD;split at hk
  ·rename_i fd hf
   obtain⟨fs,hu,hfs⟩:=LP hf;split at hk
   ·rename_i q hsz
    rw [aT]at hk;refine⟨_,_,hk,.ptr hL,fun w=>?_⟩;simp [Instr.fieldAt,run_underlying hu,hfs,Instr.sureAddr,fieldPlace,fE hsz,lN,Nat.add_assoc]
   ·cases hk
  ·cases hk
 ·cases hk
theorem QB{t:TypeId}{cs:List Value}{cs':Array Value}{off:Nat}{K:Value->Bool} (hk:YD P t cs off K=true) (hcs:gW U cs cs'.toList):
 ∃v v',K v=true/\VR U v v'/\∀w,(part t cs' off).run P w= .ok v' w:=by
 unfold YD at hk;split at hk
 ·rename_i hagg
  obtain⟨v,hv,hk⟩:=BZ hk;obtain⟨v',hv',hr⟩:=hcs.get hv;rw [Array.getElem?_toList]at hv';exact⟨v,v',hk,hr,fun w=>by simp [part,yV hagg,hv']⟩
 ·rename_i hagg
  split at hk
  ·rename_i n hsz
   rw [uE]at hk;split at hk
   ·rw [wQ]at hk
    split at hk
    ·rename_i h1 h2
     refine⟨_,.agg ⟨(cs'.toList.drop off).take n⟩,hk,.Aq ((hcs.drop off).take n),fun w=>?_⟩
     have:cs'.extract off (off+n)=⟨(cs'.toList.drop off).take n⟩:=by
      apply Array.toList_inj.1;simp [Array.toList_extract,List.extract_eq_take_drop]
     simp [part,yV hagg,fE hsz,this]
    ·cases hk
   ·cases hk
  ·cases hk
 ·cases hk
theorem LQ{t:TypeId}{x x':Value}{f:Nat}{K:Value->Bool} (hk:FW P t x f K=true) (hx:VR U x x'):
 ∃v v',K v=true/\VR U v v'/\∀w,(Instr.field t x' f).run P w= .ok v' w:=by
 unfold FW at hk;split at hk
 ·rename_i cs
  obtain⟨cs',rfl,hcs⟩:=hx.AS;split at hk
  ·rename_i fd hf
   obtain⟨fs,hu,hfs⟩:=LP hf;obtain⟨v,v',h1,h2,h3⟩:=QB hk hcs;exact⟨v,v',h1,h2,fun w=>by simp [Instr.field,run_underlying hu,hfs,asAgg,h3]⟩
  ·cases hk
 ·cases hk
theorem LR{t:TypeId}{x x' ix ix':Value}{K:Value->Bool} (hk:OO P t x ix K=true) (hx:VR U x x') (hi:VR U ix ix'):
 ∃v v',K v=true/\VR U v v'/\∀w,(Instr.index t x' ix').run P w= .ok v' w:=by
 unfold OO at hk;split at hk
 ·rename_i kd j
  rw [hi.of_flat rfl];split at hk
  ·rename_i cs
   obtain⟨cs',rfl,hcs⟩:=hx.AS;split at hk
   ·rename_i len e hu
    split at hk
    ·rename_i size hsz hj
     have hj:j<len:=Nat.le_of_ble_eq_true hj;obtain⟨v,v',h1,h2,h3⟩:=QB hk hcs;exact⟨v,v',h1,h2,fun w=>by simp [Instr.index,asIntOf,run_underlying hu,hj,fE hsz,h3]⟩
    ·cases hk
   ·cases hk
  ·rename_i s
   rw [hx.of_flat rfl];split at hk
   ·rename_i hu
    obtain⟨b,hb,hk⟩:=BZ hk;rw [aT]at hk;refine⟨_,_,hk,.flat rfl,fun w=>?_⟩
    have hb':s[j]? =some b:=by
     rw [Array.getElem?_toList]at hb;obtain⟨h1,h2⟩:=Array.getElem?_eq_some_iff.1 hb;have h3:j<s.size:=h1;rw [getElem?_pos s j h3]
     congr 1
    simp [Instr.index,asIntOf,run_underlying hu,hb']
   ·cases hk
  ·cases hk
 ·cases hk
theorem Ar (l:List Value):∀(off n:Nat) (cs:Array Value),off+n+l.length<=cs.size->
 ((l.zipIdx n).foldl (fun cs (x:Value×Nat)=>cs.setIfInBounds (off+x.2) x.1) cs).toList=splice (off+n) l cs.toList:=by
 induction l with
 | nil=>intro off n cs _;simp [splice]
 | cons v l ih=>
  intro off n cs h;simp only [List.zipIdx_cons,List.foldl_cons];rw [ih off (n+1) _ (by simp at h ⊢;omega)];apply List.ext_getElem?;intro j;have hl:cs.toList.length=cs.size:=rfl;rw [oA _ _ _ (by simp at h ⊢;omega),oA _ _ _ (by simp at h ⊢;omega)];simp only [Array.toList_setIfInBounds,List.length_cons];by_cases h2:j=off+n
  ·subst h2
   rw [if_neg (by omega),if_pos (by omega),Nat.sub_self];have:off+n<cs.size:=by simp at h;omega
   simp [this]
  ·by_cases h3:off+(n+1)<=j/\j<off+(n+1)+l.length
   ·rw [if_pos h3,if_pos (by omega)]
    obtain⟨q,rfl⟩:∃q,j=off+n+(q+1):=⟨j-(off+n+1),by omega⟩;rw [show off+n+(q+1)-(off+(n+1))=q by omega,show off+n+(q+1)-(off+n)=q+1 by omega];simp
   ·rw [if_neg h3,if_neg (by omega),List.getElem?_set_ne (by omega)]
def TG (U:Rn) (l l':List (Nat×Value)):Prop:=l.length=l'.length/\∀(k:Nat) (p p':Nat×Value),l[k]? =some p->l'[k]? =some p'->p.1=p'.1/\VR U p.2 p'.2
theorem TG.cI{p:Nat×Value}{l l':List (Nat×Value)} (h:TG U (p::l) l'):∃p' t',l'=p'::t'/\p.1=p'.1/\VR U p.2 p'.2/\TG U l t':=by
 cases l' with
 | nil=>have:=h.1;simp at this
 | cons p' t'=>
  obtain⟨h1,h2⟩:=h.2 0 p p' rfl rfl;exact⟨p',t',rfl,h1,h2,by simpa using h.1,fun k q q' a b=>h.2 (k+1) q q' (by simpa using a) (by simpa using b)⟩
theorem AT{place place':Nat->Option (Nat×Nat)} (hpl:∀i q,place i=some q->place' i=some q):∀{parts parts':List (Nat×Value)} {cells:List Value} {cells':Array Value} {k:List Value->Bool},
 JG place parts cells k=true->TG U parts parts'->gW U cells cells'.toList->∃out out',k out=true/\Instr.fill place' cells' parts'=some out'/\gW U out out'.toList/\out.length=cells.length:=by
 intro parts;induction parts with
 | nil=>
  intro parts' cells cells' k hk hp hc;have:parts'=[]:=List.eq_nil_of_length_eq_zero hp.1.symm;subst this;exact⟨cells,cells',hk,rfl,hc,rfl⟩
 | cons p parts ih=>
  intro parts' cells cells' k hk hp hc;obtain⟨p',t',rfl,h1,h2,ht⟩:=hp.cI
  have hk':(match place p.1 with
   | some (off,size)=>kM p.2 fun new=>yT new fun m=>match Nat.beq m size with
    | true=>mM off new cells fun cs=>JG place parts cs k
    | false=>false
   | none=>false)=true:=hk
  split at hk'
  ·rename_i off size hq
   obtain⟨new,hk',hone,hnew,_⟩:=wI hk' h2;rw [jS]at hk';split at hk'
   ·rename_i hm
    have hm:=Nat.eq_of_beq_eq_true hm;rw [sI]at hk';split at hk'
    ·rename_i hlen
     have hsz:p'.2.cells.size=size:=by rw [<-hm,hnew.1];rfl
     have hcl:cells.length=cells'.size:=hc.1;have hnl:new.length=p'.2.cells.size:=hnew.1
     have e1:(p'.2.cells.zipIdx.foldl (fun cs (x:Value×Nat)=>cs.setIfInBounds (off+x.2) x.1) cells').toList=splice off p'.2.cells.toList cells'.toList:=by
      rw [<-Array.foldl_toList,Array.toList_zipIdx];exact Ar p'.2.cells.toList off 0 cells' (by have:p'.2.cells.toList.length=p'.2.cells.size:=rfl;omega)
     obtain⟨out,out',g1,g2,g3,g4⟩:=ih (cells':=p'.2.cells.zipIdx.foldl (fun cs (x:Value×Nat)=>cs.setIfInBounds (off+x.2) x.1) cells') hk' ht (by rw [e1];exact hc.splice hnew off);refine⟨out,out',g1,?_,g3,by rw [g4,wJ _ _ _ hlen]⟩;obtain⟨i',v'⟩:=p';simp only at h1;simp only [Instr.fill,<-h1,hpl _ _ hq];have c1:(v'.cells.size != size)=false:=by simp;exact hsz
     have c2:¬off+v'.cells.size>cells'.size:=by
      have:v'.cells.size=new.length:=by rw [hnl]
      omega
     rw [if_neg (by simp;have:v'.cells.size=new.length:=by rw [hnl]
                    omega)]
     exact g2
    ·cases hk'
   ·cases hk'
  ·cases hk'
end mem
section mem
variable{P:Program}{w0:World}{U:Rn}{Sz:St}{w:World}
theorem yE (h:Rel P w0 U Sz w){A:aO}{a:Act} (hA:sJ P U A a):∀{parts:List (Nat×Operand)} {k:List (Nat×Value)->Bool},xL A parts k=true->
 ∃ps,k ps=true/\TG U ps (parts.map fun p=>(p.1,a.eval p.2)):=by
 intro parts;induction parts with
 | nil=>intro k hk;exact⟨[],hk,rfl,by simp⟩
 | cons p parts ih=>
  intro k hk;obtain⟨v,hv,hr⟩:=aM h hA (show oN A p.2 (fun v=>xL A parts fun l=>k ((p.1,v)::l))=true from hk);obtain⟨ps,hps,hrs⟩:=ih hv;refine⟨(p.1,v)::ps,hps,by simp [hrs.1],fun j q q' x y=>?_⟩;cases j with
  | zero=>simp at x y;subst x y;exact⟨rfl,hr⟩
  | succ j=>simp at x;exact hrs.2 j q q' x (by simpa using y)
theorem As:∀(fs:List Field) (pl:List (Nat×Nat)),placesOf P fs=some pl->∀w,(fs.mapM (fun f=>(do pure (f.offset,<-sizeOf f.type):Sem (Nat×Nat)))).run P w= .ok pl w:=by
 intro fs;induction fs with
 | nil=>intro pl h w;simp [placesOf]at h;subst h;rfl
 | cons f fs ih=>
  intro pl h w;simp only [placesOf,List.mapM_cons]at h;cases hs:bL P f.type with
  | none=>simp [hs]at h
  | some s=>
   cases hp:fs.mapM (fun f=>(bL P f.type).map fun s=>(f.offset,s))with
   | none=>simp [hs,hp]at h
   | some pl'=>
    simp [hs,hp]at h;subst h;have:=ih pl' hp w;simp only [List.mapM_cons,Sem.run_bind,fE hs,Result.andThen_ok,Sem.run_pure,this]
theorem LS (h:Rel P w0 U Sz w){A:aO}{a:Act} (hA:sJ P U A a){t:TypeId}{parts:Array (Nat×Operand)}{K:Value->Bool} (hk:TF P A t parts.toList K=true):
 ∃v v',K v=true/\VR U v v'/\∀w,(Instr.build t (parts.map fun p=>(p.1,a.eval p.2))).run P w= .ok v' w:=by
 unfold TF at hk;split at hk
 ·rename_i zero fields hz hu
  split at hk
  ·rename_i pl hpl
   split at hk
   ·rename_i QC
    obtain⟨ps,hk,hps⟩:=yE h hA hk;have YF:gW U zero zero:= .flat (by rw [jT]at QC;exact List.all_eq_true.1 QC);obtain⟨out,out',g1,g2,g3,_⟩:=AT (place':=(pl.toArray[·]?)) (cells':=⟨zero⟩) (by intro i q hq;simpa using hq) hk hps YF;refine⟨_,.agg out',g1,.Aq g3,fun w=>?_⟩;obtain⟨zv,hz1,hz2⟩:=vR hz w;have ez:zv.cells=⟨zero⟩:=Array.toList_inj.1 hz2;have hpr:=As fields.toList pl hpl w
    have aG3:(fields.mapM (fun f=>(do pure (f.offset,<-sizeOf f.type):Sem (Nat×Nat)))).run P w= .ok pl.toArray w:=by
     rw [Array.mapM_eq_mapM_toList,Sem.run_map,hpr];rfl
    simp only [Instr.build,Sem.run_bind,hz1,Result.andThen_ok,run_underlying hu,aG3,ez];have e2:(parts.map fun p=>(p.1,a.eval p.2)).toList=parts.toList.map fun p=>(p.1,a.eval p.2):=by simp
    rw [e2,g2];rfl
   ·cases hk
  ·cases hk
 ·rename_i zero n elem hz hu
  split at hk
  ·rename_i size hsz
   split at hk
   ·rename_i QC
    obtain⟨ps,hk,hps⟩:=yE h hA hk;have YF:gW U zero zero:= .flat (by rw [jT]at QC;exact List.all_eq_true.1 QC);obtain⟨out,out',g1,g2,g3,_⟩:=AT (place':=fun i=>some (i*size,size)) (cells':=⟨zero⟩) (by intro i q hq;exact hq) hk hps YF;refine⟨_,.agg out',g1,.Aq g3,fun w=>?_⟩;obtain⟨zv,hz1,hz2⟩:=vR hz w;have ez:zv.cells=⟨zero⟩:=Array.toList_inj.1 hz2;have e2:(parts.map fun p=>(p.1,a.eval p.2)).toList=parts.toList.map fun p=>(p.1,a.eval p.2):=by simp
    simp only [Instr.build,Sem.run_bind,hz1,Result.andThen_ok,run_underlying hu,fE hsz,ez];rw [e2,g2];rfl
   ·cases hk
  ·cases hk
 ·cases hk
theorem Rel.ID (h:Rel P w0 U Sz w){cs cs':List Value} (hcs:gW U cs cs') (t:TypeId){K:Nat->St->Bool} (hk:sH Sz (.cells cs t .exact) K=true):
 ∃U' S' w',K Sz.n S'=true/\w'=w.alloc (.cells ⟨cs'⟩ t)/\Rel P w0 U' S' w'/\Stp U w U' w'/\∃L,U' Sz.n=some L/\L.b=w.heap.size/\L.s=0:=by
 rw [fO]at hk;obtain⟨h1,h2⟩:=h.Un hcs t 0;exact⟨_,_,_,hk,rfl,h1,h2,_,Rn.iF _ _ _,rfl,rfl⟩
theorem Rel.aA6 (h:Rel P w0 U Sz w) (ob:Obj){K:Nat->St->Bool} (hk:sH Sz .dead K=true):
 ∃U' S' w',K Sz.n S'=true/\w'=w.alloc ob/\Rel P w0 U' S' w'/\Stp U w U' w'/\∃L,U' Sz.n=some L/\L.b=w.heap.size/\L.s=0:=by
 rw [fO]at hk;obtain⟨h1,h2⟩:=h.new .dead ob ⟨w.heap.size,0,0,0⟩ rfl (fun _ _ _=>trivial) (fun _ hi=>nomatch hi);exact⟨_,_,_,hk,rfl,h1,h2,_,Rn.iF _ _ _,rfl,rfl⟩
theorem VR.aDt{i:Nat}{L:Loc} (h:U i=some L){b:Nat} (hb:L.b=b) (hs:L.s=0):VR U (.pointer (some ⟨i,0,none⟩)) (.pointer (some ⟨b,0,none⟩)):=by
 have:=VR.ptr (o:=0) h;rw [hb,hs]at this;exact this
theorem VR.TH{i:Nat}{L:Loc} (h:U i=some L){b:Nat} (hb:L.b=b) (hs:L.s=0) (n c:Nat):VR U (.slice (some ⟨i,0,none⟩) n c) (.slice (some ⟨b,0,none⟩) n c):=by
 have:=VR.slice (o:=0) (n:=n) (c:=c) h;rw [hb,hs]at this;exact this
theorem Jo (h:Rel P w0 U Sz w){t:TypeId}{x x':Value}{K:VK} (hk:El t x Sz K=true) (hx:VR U x x'):
 ∃U' v S' v' w',K v S'=true/\(Instr.box t x').run P w= .ok v' w'/\VR U' v v'/\Rel P w0 U' S' w'/\Stp U w U' w':=by
 unfold El at hk;obtain⟨cs,hk,_,hcs,_⟩:=wI hk hx;obtain⟨U',S',w',hk,hw,h1,h2,L,hL,hb,hs⟩:=h.ID hcs t hk;exact⟨U',_,S',_,w',hk,by subst hw;simp [Instr.box,newVar,newRow],.aDt hL hb hs,h1,h2⟩
theorem At (h:Rel P w0 U Sz w){t:TypeId}{K:VK} (hk:FX P t Sz K=true):
 ∃U' v S' v' w',K v S'=true/\(Instr.alloc t true (.tuple #[])).run P w= .ok v' w'/\VR U' v v'/\Rel P w0 U' S' w'/\Stp U w U' w':=by
 unfold FX at hk;split at hk
 ·rename_i zero hz
  split at hk
  ·rename_i QC
   rw [Ng]at hk;have YF:gW U zero zero:= .flat (by rw [jT]at QC;exact List.all_eq_true.1 QC);obtain⟨U',S',w',hk,hw,h1,h2,L,hL,hb,hs⟩:=h.ID YF t hk;obtain⟨zv,hz1,hz2⟩:=vR hz w;have ez:zv.cells=⟨zero⟩:=Array.toList_inj.1 hz2;exact⟨U',_,S',_,w',hk,by subst hw;simp [Instr.alloc,hz1,newVar,newRow,ez],.aDt hL hb hs,h1,h2⟩
  ·cases hk
 ·cases hk
theorem TI{t:TypeId}{z:List Value} (h:pJ P t=some z){i:TypeInfo} (hi:P.info? t=some i):∃v,i.zero=some v/\v.cells.toList=z:=by
 unfold pJ at h;rw [hi]at h;cases hz:i.zero with
 | none=>simp [hz]at h
 | some v=>simp [hz]at h;exact⟨v,rfl,h⟩
theorem CA (zero:List Value) (z:Array Value) (hz:z.toList=zero) (n:Nat) (h0:zero≠[]):(Array.range (n*zero.length)).map (fun i=>z[i%z.size]!)=⟨(List.replicate n zero).flatten⟩:=by
 apply Array.toList_inj.1;have hsz:z.size=zero.length:=by rw [<-hz];rfl
 have hpos:0<zero.length:=List.length_pos_iff.2 h0;apply List.ext_getElem?;intro j;simp only [Array.toList_map,Array.toList_range,hsz];have hlen:(List.replicate n zero).flatten.length=n*zero.length:=by simp
 by_cases hj:j<n*zero.length
 ·rw [List.getElem?_map,List.getElem?_range hj]
  have hm:j%zero.length<zero.length:=Nat.mod_lt _ hpos
  have e1:z[j%zero.length]! =zero[j%zero.length]:=by
   rw [getElem!_pos z _ (by omega)];subst hz;rfl
  have e2:∀n j,j<n*zero.length->(List.replicate n zero).flatten[j]? =some (zero[j%zero.length]'(Nat.mod_lt _ hpos)):=by
   intro n;induction n with
   | zero=>intro j hj;simp at hj
   | succ n ih=>
    intro j hj;simp only [List.replicate_succ,List.flatten_cons];by_cases h1:j<zero.length
    ·rw [List.getElem?_append_left h1,List.getElem?_eq_getElem h1]
     congr 1;simp [Nat.mod_eq_of_lt h1]
    ·rw [List.getElem?_append_right (by omega),ih (j-zero.length) (by rw [Nat.succ_mul]at hj;omega)]
     congr 1
     simp only [Nat.mod_eq_sub_mod (show j>=zero.length by omega)]
  rw [e2 n j hj];simp [e1]
 ·rw [List.getElem?_eq_none (by simp;omega),List.getElem?_eq_none (by rw [hlen];omega)]
theorem OS (h:Rel P w0 U Sz w){t:TypeId}{l l' c c':Value}{K:VK} (hk:pW P t l c Sz K=true) (hl:VR U l l') (hc:VR U c c'):
 ∃U' v S' v' w',K v S'=true/\(Instr.makeSlice t l' c').run P w= .ok v' w'/\VR U' v v'/\Rel P w0 U' S' w'/\Stp U w U' w':=by
 unfold pW at hk;split at hk
 ·rename_i k1 l k2 c
  rw [hl.of_flat rfl,hc.of_flat rfl];split at hk
  ·rename_i elem he
   have hu:=dR he;split at hk
   ·rename_i info zero hi hz
    split at hk
    ·rename_i q h1 h2 h3 h4 h5
     have h1:=Nat.le_of_ble_eq_true h1;have h2:=Nat.le_of_ble_eq_true h2;have h3:=Nat.le_of_ble_eq_true h3;have h4:=Nat.eq_of_beq_eq_true h4;split at hk
     ·rename_i QC
      obtain⟨zv,hzi,hz2⟩:=TI hz hi;have hne:zero≠[]:=by intro e;rw [e]at h4;simp at h4;omega
      have hzs:=CA zero zv.cells hz2 c hne
      have h2':(info.bytes:Int)*(c:Int)<=1099511627776:=by
       have:((info.bytes*c:Nat):Int)<=1099511627776:=by omega
       rwa [Int.natCast_mul]at this
      have hr:=run_make (P:=P) w t elem info zv hu hi hzi k1 k2 l c (by omega) (by omega) (by omega) (by omega);simp only [Int.toNat_natCast]at hr;have hm:madeCells zv.cells (c*info.size)=⟨(List.replicate c zero).flatten⟩:=by rw [<-hzs,h4];rfl
      split at hk
      ·rw [wK]at hk
       have YF:gW U zero zero:= .flat (by rw [jT]at QC;exact List.all_eq_true.1 QC);obtain⟨U',S',w',hk,hw,g1,g2,L,hL,hb,hs⟩:=h.ID (YF.flatten c) elem hk;refine⟨U',_,S',_,w',hk,hr.trans ?_,.TH hL hb hs l c,g1,g2⟩;rw [hw,hm]
      ·obtain⟨U',S',w',hk,hw,g1,g2,L,hL,hb,hs⟩:=h.aA6 (.cells ⟨(List.replicate c zero).flatten⟩ elem) hk
       refine⟨U',_,S',_,w',hk,hr.trans ?_,.TH hL hb hs l c,g1,g2⟩;rw [hw,hm]
     ·cases hk
    ·cases hk
   ·cases hk
  ·cases hk
 ·cases hk
end mem
section mem
variable{P:Program}{w0:World}{U:Rn}{Sz:St}{w:World}
theorem LT (h:Rel P w0 U Sz w){A:aO}{a:Act} (hA:sJ P U A a){t:TypeId}{len:Nat}{parts:Array (Nat×Operand)}{K:VK} (hk:sU P A t len parts.toList Sz K=true):
 ∃U' v S' v' w',K v S'=true/\(Instr.buildSlice t len (parts.map fun p=>(p.1,a.eval p.2))).run P w= .ok v' w'/\VR U' v v'/\Rel P w0 U' S' w'/\Stp U w U' w':=by
 unfold sU at hk;split at hk
 ·rename_i elem he
  have hu:=dR he;split at hk
  ·rename_i size zero hsz hz
   split at hk
   ·rename_i h1 h2
    have h1:=Nat.le_of_ble_eq_true h1;have h2:=Nat.eq_of_beq_eq_true h2;split at hk
    ·rename_i QC
     have YF:gW U zero zero:= .flat (by rw [jT]at QC;exact List.all_eq_true.1 QC);rw [wK]at hk;obtain⟨ps,hk,hps⟩:=yE h hA hk;obtain⟨out,out',g1,g2,g3,_⟩:=AT (place':=fun i=>some (i*(size+1),size+1)) (cells':=⟨(List.replicate len zero).flatten⟩) (by intro i q hq;exact hq) hk hps (YF.flatten len);obtain⟨U',S',w',hk,hw,r1,r2,L,hL,hb,hs⟩:=h.ID g3 elem g1;refine⟨U',_,S',_,w',hk,?_,.TH hL hb hs len len,r1,r2⟩;obtain⟨zv,hz1,hz2⟩:=vR hz w;have hne:zero≠[]:=by intro e;rw [e]at h2;simp at h2
     have e2:(parts.map fun p=>(p.1,a.eval p.2)).toList=parts.toList.map fun p=>(p.1,a.eval p.2):=by simp
     have hc:¬len*(size+1)>2 ^ 24:=by omega
     rw [hw];by_cases h0:len*(size+1)=0
     ·have hl0:len=0:=by
       rcases Nat.mul_eq_zero.1 h0 with h0 | h0
       ·exact h0
       ·omega
      subst hl0;have e3:(⟨(List.replicate 0 zero).flatten⟩:Array Value)= #[]:=by simp
      rw [e3]at g2;have e4:∀f:Nat->Value,(Array.range 0).map f= #[]:=fun f=>by simp
      simp only [Instr.buildSlice,Sem.run_bind,run_underlying hu,Result.andThen_ok,fE hsz,Nat.zero_mul,e4,e2,g2,newRow];rfl
     ·have hzs:=CA zero zv.cells hz2 len hne
      rw [h2]at hzs;simp only [Instr.buildSlice,Sem.run_bind,run_underlying hu,Result.andThen_ok,fE hsz,if_neg hc,if_neg h0,hz1,Sem.run_pure,hzs,e2,g2,newRow];rfl
    ·cases hk
   ·cases hk
  ·cases hk
 ·cases hk
end mem
section conv
variable{P:Program}{w0:World}{U:Rn}{Sz:St}{w:World}
theorem Au (l:List UInt8) (k:List Value->Bool):Ui l k=k (l.map fun b=> .int .u8 (b.toNat:Int)):=by
 induction l generalizing k with
 | nil=>rfl
 | cons b l ih=>
  show bA b.toNat (fun n=>Ui l fun t=>k (.int .u8 (.ofNat n)::t))=_;rw [aT,ih];rfl
theorem QD:∀{l:List Value} {k:List UInt8->Bool},Jm l k=true->∃ns:List Nat,k (ns.map UInt8.ofNat)=true/\l=ns.map (fun n=> .int .u8 (.ofNat n)):=by
 intro l;induction l with
 | nil=>intro k hk;exact⟨[],hk,rfl⟩
 | cons v l ih=>
  intro k hk;unfold Jm at hk;rw [aW]at hk;split at hk
  ·rename_i n
   obtain⟨ns,h1,h2⟩:=ih (k:=fun t=>k (UInt8.ofNat n::t)) hk;exact⟨n::ns,h1,by rw [h2];rfl⟩
  ·cases hk
theorem gW.Nh{l l':List Value} (h:gW U l l') (hf:∀v∈l,aY v=true):l'=l:=by
 apply List.ext_getElem?;intro k;cases hk:l[k]? with
 | none=>exact h.get_none hk
 | some x=>
  obtain⟨x',hx',hr⟩:=h.get hk;rw [hx',hr.of_flat (hf x (List.mem_of_getElem? hk))]
theorem En (h:Rel P w0 U Sz w){src dst:TypeId}{x x':Value}{K:VK} (hk:PZ P src dst x Sz K=true) (hx:VR U x x'):
 ∃U' v S' v' w',K v S'=true/\(convert src dst x').run P w= .ok v' w'/\VR U' v v'/\Rel P w0 U' S' w'/\Stp U w U' w':=by
 unfold PZ at hk;split at hk
 ·rename_i kd n
  cases hx.of_flat rfl;split at hk
  ·rename_i d k hs hd
   unfold BM at hk;rw [jA,CB]at hk;refine⟨U,_,Sz,_,w,hk,?_,.flat rfl,h,.refl U w⟩;simp [convert,run_underlying hs,run_underlying hd,Conv.intToInt]
  ·cases hk
 ·rename_i s
  cases hx.of_flat rfl;split at hk
  ·rename_i hs hd
   refine⟨U,_,Sz,_,w,hk,?_,.flat rfl,h,.refl U w⟩;simp [convert,run_underlying hs,run_underlying hd]
  ·rename_i e hs hd
   split at hk
   ·rename_i he h1
    rw [Au,jS,fO]at hk;have hcap:=grownCap_ge w s.size 0 e;generalize hcc:grownCap w s.size 0 e=cc at hcap
    let bs:List Value:=s.data.toList.map (fun b:UInt8=>Value.int .u8 (b.toNat:Int))
    let zs:List Value:=List.replicate (cc-s.size) (.int .u8 0)
    have hbl:bs.length=s.size:=by show(List.map _ _).length=_;rw [List.length_map];rfl
    have hzl:zs.length=cc-s.size:=List.length_replicate;have hrow:bytesRow s cc=⟨bs++zs⟩:=by apply Array.toList_inj.1;simp [bytesRow,bs,zs]
    have hsz:(bytesRow s cc).size=cc:=by rw [hrow];show(bs++zs).length=_;rw [List.length_append];omega
    have hfl:gW U bs bs:= .flat (by simp [bs,aY]);obtain⟨r1,r2⟩:=h.drew.Eo (more:=zs) hfl e h1 ((bytesRow s cc).size,(bytesRow s cc).size+1) (by intro x hx;rw [List.length_append]at hx;omega) [] (by simp);have hrun:=run_bytes_of_string w src dst e s hs hd he;rw [hcc,hrow]at hrun;rw [hrow]at r1 r2;refine⟨_,_,_,_,_,hk,hrun,?_,r1,(Stp.drew U w).trans r2⟩;have hL:=Rn.iF U Sz.n ⟨w.drew.heap.size,0,(bs++zs).length,1⟩;have:=VR.mN (o:=0) (n:=s.size) (c:=s.size) (c':=cc) hL hcap (Nat.le_refl _) (by simp only [List.length_append];omega) Nat.one_pos;rw [List.length_map];exact this
   ·cases hk
  ·cases hk
 ·rename_i n c
  cases hx.of_flat rfl;split at hk
  ·rename_i e hs hd
   split at hk
   ·rename_i he
    exact⟨U,_,Sz,_,w,hk,run_convert_bytes_nil w src e hs he _ _ dst hd,.flat rfl,h,.refl U w⟩
   ·cases hk
  ·cases hk
 ·rename_i i o sp len c
  split at hk
  ·cases hk
  ·rename_i e hs hd hsp
   split at hk
   ·rename_i he
    rcases hx.iI with ⟨L,c',hL,rfl,_⟩ | ⟨⟨s1,h1⟩,rfl,rfl,_⟩
    ·obtain⟨vs,e',ck,ho,hle,hk⟩:=vS hk
     obtain⟨l',hl',hlen,hc⟩:=h.yP ho hL hle;obtain⟨ns,hk,hns⟩:=QD hk;rw [hns]at hl';have hl'':l'=ns.map (fun n=> .int .u8 (.ofNat n)):=hl'.Nh (by simp [aY]);refine⟨U,_,Sz,_,w,hk,?_,.flat rfl,h,.refl U w⟩;rw [run_convert_bytes_string w src dst e _ _ _ hs he hd];have hld:=run_loadCells (P:=P) ⟨L.b,L.s+o,none⟩ l' hlen hc;rw [hl'']at hld;have e1:(⟨ns.map (fun n=>Value.int .u8 (.ofNat n))⟩:Array Value)=((ns.map Int.ofNat).map (Value.int .u8)).toArray:=by simp [List.map_map,Function.comp_def]
     rw [e1]at hld;rw [run_bytesToString w _ _ _ _ hld]
     congr 2
     have hf:∀(l:List Nat) (r:ByteArray),(l.map Int.ofNat).foldl (fun r (n:Int)=>r.push (UInt8.ofNat n.toNat)) r=⟨r.data++(l.map UInt8.ofNat).toArray⟩:=by
      intro l;induction l with
      | nil=>intro r;simp
      | cons b l ih=>intro r;simp only [List.map_cons,List.foldl_cons,ih];simp [ByteArray.push]
     rw [hf];have he0:ByteArray.empty.data= #[]:=rfl;rw [he0];simp
    ·subst h1;exact absurd rfl (hsp _)
   ·cases hk
  ·cases hk
 ·cases hk
end conv
end Go.Am
namespace Go.Am
open Go.RowKit Go.MapKept
section maps
variable{P:Program}{w0:World}{U:Rn}{Sz:St}{w:World}
theorem Rel.aA7 (h:Rel P w0 U Sz w){i:Nat}{o o':fD} (ho:Sz.obj i=some o) (hd:o.sK=false) (hr:o.reads=false) (hol:o.olds=[]){L:Loc} (hL:U i=some L) (hb:w0.heap.size<=L.b)
 (aDu:o'.olds=[]) (ob:Obj) (oB:(w.putObj L.b ob).heap[L.b]? =some ob->xN P w0 U (w.putObj L.b ob) i o'):Rel P w0 U (Sz.set i o') (w.putObj L.b ob)/\Stp U w U (w.putObj L.b ob):=by
 have hlt:=h.loc i L hL;have oB:=oB (World.putObj_heap_same hlt)
 have hne:∀j x,j≠i->Sz.obj j=some x->x.sK=false->∀M,U j=some M->M.b≠L.b:=by
  intro j x hji hx hxd M hM e;rcases h.sep i j o x L M (Ne.symm hji) ho hx hd hxd hL hM e.symm with ⟨h1,_⟩ | h1 | h1
  ·rw [hr]at h1;cases h1
  ·rw [hol]at h1;cases h1
  ·cases x with
   | cells vs t k=>
    cases k with
    | grown olds=>
     obtain⟨_,h2⟩:=h.old j vs t olds hx i h1;rcases h2 o ho with h3 | ⟨ws,t',h3,_⟩
     ·rw [h3]at hd;cases hd
     ·rw [h3]at hr;cases hr
    | _=>cases h1
   | _=>cases h1
 have hcase:∀j x,(Sz.set i o').obj j=some x->(j=i/\x=o')\/(j≠i/\Sz.obj j=some x):=fun j x hx=>by
  rw [wL]at hx;by_cases e:j=i
  ·rw [if_pos e]at hx;injection hx with hx;exact .inl ⟨e,hx.symm⟩
  ·rw [if_neg e]at hx;exact .inr ⟨e,hx⟩
 refine h.upd (S':=Sz.set i o') hb ⟨i,L,hL,rfl⟩ rfl (putObj_size _ _) (fun c hc=>uF hc) rfl rfl rfl (fun j x hx=>?_) (fun a b x y M N hab hx hy hxd hyd hM hN WS=>?_) (fun j vs e olds hj q hq=>?_)
 ·rcases hcase j x hx with ⟨rfl,rfl⟩ | ⟨e,hx⟩
  ·exact .inr (.inr ⟨h.lt j o ho,oB⟩)
  ·cases hxd:x.sK with
   | true=>exact .inl ⟨rfl,h.lt j x hx⟩
   | false=>exact .inr (.inl ⟨hx,hne j x e hx hxd⟩)
 ·rcases hcase a x hx with ⟨e1,_⟩ | ⟨ea,hx1⟩<;>rcases hcase b y hy with ⟨e2,_⟩ | ⟨eb,hy1⟩
  ·exact absurd (e1.trans e2.symm) hab
  ·rw [e1,hL]at hM;injection hM with hM;subst hM;exact absurd WS.symm (hne b y eb hy1 hyd N hN)
  ·rw [e2,hL]at hN;injection hN with hN;subst hN;exact absurd WS (hne a x ea hx1 hxd M hM)
  ·exact h.sep a b x y M N hab hx1 hy1 hxd hyd hM hN WS
 ·rcases hcase j _ hj with ⟨rfl,e2⟩ | ⟨e,hj⟩
  ·rw [<-e2]at aDu;simp only [fD.olds]at aDu;subst aDu;cases hq
  ·obtain⟨h1,h2⟩:=h.old j vs _ olds hj q hq
   refine⟨h1,fun x hx=>?_⟩;rcases hcase q x hx with ⟨rfl,rfl⟩ | ⟨e',hx⟩
   ·rcases h2 o ho with h3 | ⟨ws,t',h3,_⟩
    ·rw [h3]at hd;cases hd
    ·rw [h3]at hr;cases hr
   ·exact h2 x hx
theorem yQ{m:Value}{k:Option Nat->List MapEntry->Nat->Bool} (hk:An Sz m k=true):
 (m= .map none/\k none [] 0=true)\/∃r es c,m= .map (some r)/\Sz.obj r=some (.map es c)/\k (some r) es c=true:=by
 unfold An at hk;split at hk
 ·exact .inl ⟨rfl,hk⟩
 ·rename_i r
  rw [mO]at hk;cases ho:Sz.h.get r with
  | none=>rw [ho]at hk;cases hk
  | some o=>
   rw [ho]at hk;cases o with
   | map es c=>exact .inr ⟨r,es,c,rfl,ho,hk⟩
   | _=>cases hk
 ·cases hk
theorem VR.yF{r:Nat}{v':Value} (h:VR U (.map (some r)) v'):∃L,U r=some L/\v'= .map (some L.b):=by
 cases h with
 | flat h=>simp [aY]at h
 | map h=>exact⟨_,h,rfl⟩
theorem Rel.map (h:Rel P w0 U Sz w){r:Nat}{es:List MapEntry}{c:Nat} (ho:Sz.obj r=some (.map es c)){L:Loc} (hL:U r=some L):∃es',w0.heap.size<=L.b/\w.heap[L.b]? =some (.map es' c)/\dZ U es es'.toList:=by
 obtain⟨M,es',h1,h2,h3,h4⟩:=h.BP r _ ho;rw [hL]at h1;injection h1 with h1;subst h1;exact⟨es',h2,h3,h4⟩
theorem LU{t:TypeId} (h:lV P t=true):DI P t=none:=by
 cases hs:DI P t with
 | none=>rfl
 | some fs=>obtain⟨hu,_⟩:=wR hs;unfold lV at h;rw [hu]at h;cases h
theorem Av{t:TypeId} (h:lV P t=true){a b:Value}{k:Bool->Bool} (hk:xM P t a b k=true):pK P t a b k=true:=by
 unfold xM at hk;split at hk
 ·unfold lW at hk
  simp only [LU h]at hk;cases hk
 ·exact hk
theorem Ep{t:TypeId}{kd:TypeDesc} (hu:P.underlying t=some kd){a b:Value}{k:Bool->Bool} (hk:pK P t a b k=true):∃e,k e=true/\Instr.sameNow kd a b=some e:=by
 unfold pK at hk;rw [hu]at hk;split at hk
 ·rename_i q hq
  injection hq with hq;subst hq;split at hk
  ·rename_i j x l y
   split at hk
   ·rename_i hj
    have:=yW hj;subst this;rw [kH,DK]at hk;exact⟨_,hk,by simp [Instr.sameNow]⟩
   ·cases hk
  ·cases hk
 ·rename_i hq
  injection hq with hq;subst hq;split at hk
  ·rename_i x y
   rw [kH,DL]at hk
   have e:(x==y)=(x.data.toList==y.data.toList):=by
    rw [Bool.eq_iff_iff,bytes_beq,beq_iff_eq];exact⟨fun h=>by rw [h],fun h=>ByteArray.ext (Array.toList_inj.1 h)⟩
   exact⟨_,hk,by rw [<-e];rfl⟩
  ·cases hk
 ·rename_i hq
  injection hq with hq;subst hq;split at hk
  ·rw [kH]at hk
   exact⟨_,hk,rfl⟩
  ·cases hk
 ·cases hk
noncomputable def findAux (P:Program) (t:TypeId) (key:Value) (k:Option (Nat×MapEntry)->Bool) (es:List MapEntry):Nat->Bool:=
 eH (β:=Nat->Bool) (fun _=>k none) (fun e _ ih i=>xM P t key e.key fun b=>match b with | true=>k (some (i,e)) | false=>bA (Nat.succ i) ih) es
def YG (i:Nat) (l l':List MapEntry) (r:Option (Nat×MapEntry)) (r':Option (Nat×Value)):Prop:=
 (r=none/\r'=none)\/∃j e e',r=some (i+j,e)/\l[j]? =some e/\l'[j]? =some e'/\r'=some (i+j,e'.val)
theorem dZ.cons_inv{e:MapEntry}{l l':List MapEntry} (h:dZ U (e::l) l'):∃e' t',l'=e'::t'/\FZ U e e'/\dZ U l t':=by
 cases l' with
 | nil=>have:=h.1;simp at this
 | cons e' t'=>exact⟨e',t',rfl,h.2 0 e e' rfl rfl,by simpa using h.1,fun k x y a b=>h.2 (k+1) x y (by simpa using a) (by simpa using b)⟩
theorem YG.step{i:Nat}{e e':MapEntry}{l l':List MapEntry}{r:Option (Nat×MapEntry)}{r':Option (Nat×Value)} (h:YG (i+1) l l' r r'):YG i (e::l) (e'::l') r r':=by
 rcases h with h | ⟨j,x,x',h1,h2,h3,h4⟩
 ·exact .inl h
 ·exact .inr ⟨j+1,x,x',by rw [h1];congr 2;omega,by simpa using h2,by simpa using h3,by rw [h4];congr 2;omega⟩
theorem WT{t:TypeId}{kd:TypeDesc} (hp:lV P t=true) (hu:P.underlying t=some kd){key:Value}{k:Option (Nat×MapEntry)->Bool}:∀(l l':List MapEntry) (i:Nat),findAux P t key k l i=true->dZ U l l'->
 ∃r r',k r=true/\Instr.findNow kd key l' i=some r'/\YG i l l' r r':=by
 intro l;induction l with
 | nil=>
  intro l' i hk hl;have:l'=[]:=List.eq_nil_of_length_eq_zero (by simpa using hl.1.symm);subst this;exact⟨none,none,hk,rfl,.inl ⟨rfl,rfl⟩⟩
 | cons e l ih=>
  intro l' i hk hl;obtain⟨e',t',rfl,he,ht⟩:=hl.cons_inv;obtain⟨b,hb,hs⟩:=Ep hu (Av hp (show xM P t key e.key (fun b=>match b with | true=>k (some (i,e)) | false=>bA (Nat.succ i) (findAux P t key k l))=true from hk));rw [<-he.1]at hs;cases b with
  | true=>exact⟨_,_,hb,by simp only [Instr.findNow,hs];rfl,.inr ⟨0,e,e',rfl,rfl,rfl,rfl⟩⟩
  | false=>
   simp only [aT]at hb;obtain⟨r,r',h1,h2,h3⟩:=ih t' (i+1) hb ht;exact⟨r,r',h1,by simp only [Instr.findNow,hs,h2],h3.step⟩
theorem TJ{t:TypeId}{fs:List Field} (hp:DI P t=some fs){key:Value} (hkey:fX key=true){xs:Array Value} (hx:key= .agg xs){k:Option (Nat×MapEntry)->Bool}:∀(l l':List MapEntry) (i:Nat),
 findAux P t key k l i=true->dZ U l l'->∃r r',k r=true/\(∀w,(Instr.findAsking t key l' i).run P w= .ok r' w)/\YG i l l' r r':=by
 intro l;induction l with
 | nil=>
  intro l' i hk hl;have:l'=[]:=List.eq_nil_of_length_eq_zero (by simpa using hl.1.symm);subst this;exact⟨none,none,hk,fun w=>rfl,.inl ⟨rfl,rfl⟩⟩
 | cons e l ih=>
  intro l' i hk hl;obtain⟨e',t',rfl,he,ht⟩:=hl.cons_inv;have hk:xM P t key e.key (fun b=>match b with | true=>k (some (i,e)) | false=>bA (Nat.succ i) (findAux P t key k l))=true:=hk
  have hk:lW P t key e.key (fun b=>match b with | true=>k (some (i,e)) | false=>bA (Nat.succ i) (findAux P t key k l))=true:=by
   unfold xM at hk;split at hk
   ·exact hk
   ·unfold pK at hk
    rw [(wR hp).1]at hk;cases hk
  obtain⟨b,hb,hs,_⟩:=DM (U:=U) hk (VR.fX hkey) (VR.fX he.2.1);rw [<-he.1]at hs;cases b with
  | true=>exact⟨_,_,hb,fun w=>by simp [Instr.findAsking,hs],.inr ⟨0,e,e',rfl,rfl,rfl,rfl⟩⟩
  | false=>
   simp only [aT]at hb;obtain⟨r,r',h1,h2,h3⟩:=ih t' (i+1) hb ht;exact⟨r,r',h1,fun w=>by simp [Instr.findAsking,hs,h2],h3.step⟩
theorem sL{t:TypeId}{key:Value} (h:ES P t key=true):fX key=true/\(lV P t=true\/lV P t=false/\∃fs cs,DI P t=some fs/\key= .agg cs/\fs.length<=cs.toList.length):=by
 unfold ES at h;split at h
 ·rename_i hf
  refine⟨hf,?_⟩;split at h
  ·exact .inl (by assumption)
  ·rename_i h1
   split at h
   ·rename_i fs cs h2
    exact .inr ⟨h1,fs,cs,h2,rfl,Nat.le_of_ble_eq_true h⟩
   ·cases h
 ·cases h
theorem AU{t:TypeId}{key:Value} (hkey:ES P t key=true){l l':List MapEntry}{k:Option (Nat×MapEntry)->Bool} (hk:QA P t key l k=true) (hl:dZ U l l'):
 ∃r r',k r=true/\(∀w,(Instr.findKey t key l').run P w= .ok r' w)/\YG 0 l l' r r':=by
 have hk:findAux P t key k l 0=true:=hk;obtain⟨hf,hp | ⟨_,fs,cs,hs,hc,_⟩⟩:=sL hkey
 ·cases hu:P.underlying t with
  | none=>unfold lV at hp;rw [hu]at hp;cases hp
  | some kd=>
   obtain⟨r,r',h1,h2,h3⟩:=WT hp hu l l' 0 hk hl;exact⟨r,r',h1,fun w=>run_findKey hu h2,h3⟩
 ·obtain⟨r,r',h1,h2,h3⟩:=TJ hs hf hc l l' 0 hk hl
  refine⟨r,r',h1,fun w=>?_,h3⟩;have hu:=(wR hs).1;cases l' with
  | nil=>
   have h2:=h2 w;simp only [Instr.findAsking,Sem.run_pure]at h2;injection h2 with h2;rw [<-h2];exact run_findKey hu rfl
  | cons e l'=>
   simp only [Instr.findKey,Sem.run_bind,run_underlying hu,Result.andThen_ok];have:Instr.findNow (.struct (P.fieldsOf t)) key (e::l') 0=none:=by simp [Instr.findNow,Instr.sameNow]
   rw [this];exact h2 w
theorem GA{t:TypeId} (hp:lV P t=true) (em:Bool) (n:Nat) (v:Value) (w:World):(Instr.checkKey em (n+1) t v).run P w= .ok () w:=by
 unfold lV at hp;split at hp<;>first | (cases hp;done) | (rename_i hu;cases v<;>simp [Instr.checkKey,run_underlying hu])
theorem Er (em:Bool) (n:Nat) (cs:Array Value) (w:World):∀(fs:List Field) (i:Nat),pX P i fs=true->i+fs.length<=cs.toList.length->
 (forIn fs PUnit.unit (fun f (_:PUnit)=>do
  if f.name≠ "_" then Instr.checkKey em (n+1) f.type (<-part f.type cs f.offset)
  pure (ForInStep.yield PUnit.unit):Field->PUnit->Sem (ForInStep PUnit))).run P w= .ok PUnit.unit w:=by
 intro fs;induction fs with
 | nil=>intro i _ _;rfl
 | cons f fs ih=>
  intro i hp hl;simp only [pX,Bool.and_eq_true,beq_iff_eq,bne_iff_ne]at hp;obtain⟨⟨⟨hname,hoff⟩,hpl⟩,hrest⟩:=hp;simp only [List.length_cons]at hl;have hlt:i<cs.toList.length:=by omega
  have hg:cs.toList[i]? =some cs.toList[i]:=List.getElem?_eq_getElem hlt;simp only [List.forIn_cons,Sem.run_bind,hname,ne_eq,not_false_eq_true,if_true,hoff,GB hpl hg,Result.andThen_ok,GA hpl,Sem.run_pure];exact ih (i+1) hrest (by omega)
theorem eZ{t:TypeId}{key:Value} (hkey:ES P t key=true) (em:Bool) (w:World):(Instr.checkKey em 10000 t key).run P w= .ok () w:=by
 obtain⟨hf,hp | ⟨_,fs,cs,hs,rfl,hlen⟩⟩:=sL hkey
 ·exact GA hp em 9999 key w
 ·obtain⟨hu,h2,h3,_,_⟩:=wR hs
  show(Instr.checkKey em (9999+1) t (.agg cs)).run P w=_;unfold Instr.checkKey;simp only [Sem.run_bind,run_underlying hu,Result.andThen_ok];have:=Er (P:=P) em 9998 cs w fs 0 h3 (by omega);rw [<-h2,Array.forIn_toList]at this;rw [this];rfl
end maps
section maps
variable{P:Program}{w0:World}{U:Rn}{Sz:St}{w:World}
theorem GC{n:Nat}{a b:Value} (ha:aY a=true) (hb:aY b=true) (h:Instr.sameBits n a b=true):a=b:=by
 cases a<;>first | (simp [aY]at ha;done) | skip
 all_goals (cases b<;>first | (simp [aY]at hb;done) | (simp [Instr.sameBits]at h;done) | skip)
 all_goals first
  | rfl
  | (simp [Instr.sameBits]at h;simp [h];done)
  | (rw [Instr.sameBits,bytes_beq]at h;rw [h];done)
  | (rename_i x y;cases x<;>cases y<;>first | rfl | (simp [aY]at ha;done) | (simp [aY]at hb;done))
theorem GD{n:Nat}{a b:Value} (ha:fX a=true) (hb:fX b=true) (h:Instr.sameBits (n+1) a b=true):a=b:=by
 by_cases hA:∃x,a= .agg x
 ·obtain⟨x,rfl⟩:=hA
  cases b with
  | agg y=>
   simp only [Instr.sameBits,Bool.and_eq_true,beq_iff_eq]at h;obtain⟨hs,h⟩:=h;have ha:∀v∈x.toList,aY v=true:=List.all_eq_true.1 ha;have hb:∀v∈y.toList,aY v=true:=List.all_eq_true.1 hb;have hs:x.toList.length=y.toList.length:=hs
   have h:∀(l m:List Value),l.length=m.length->(∀v∈l,aY v=true)->(∀v∈m,aY v=true)->((l.zip m).all fun(a,b)=>Instr.sameBits n a b)=true->l=m:=by
    intro l;induction l with
    | nil=>intro m hm _ _ _;exact(List.eq_nil_of_length_eq_zero (by simpa using hm.symm)).symm
    | cons a l ih=>
     intro m hm h1 h2 h3;cases m with
     | nil=>simp at hm
     | cons b m=>
      simp only [List.zip_cons_cons,List.all_cons,Bool.and_eq_true]at h3;rw [GC (h1 a (.head _)) (h2 b (.head _)) h3.1,ih m (by simpa using hm) (fun v hv=>h1 v (.tail _ hv)) (fun v hv=>h2 v (.tail _ hv)) h3.2]
   rw [Array.toList_inj.1 (h _ _ hs ha hb (by assumption))]
  | _=>simp [Instr.sameBits]at h
 ·have fa:aY a=true:=by cases a<;>first | exact ha | exact absurd ⟨_,rfl⟩ hA
  by_cases hB:∃x,b= .agg x
  ·obtain⟨x,rfl⟩:=hB
   cases a<;>first | (simp [Instr.sameBits]at h;done) | exact absurd ⟨_,rfl⟩ hA
  ·have fb:aY b=true:=by cases b<;>first | exact hb | exact absurd ⟨_,rfl⟩ hB
   exact GC fa fb h
theorem dZ.Jp{l l':List MapEntry} (h:dZ U l l'){i:Nat}{e e' x:MapEntry} (hi:l[i]? =some e) (hi':l'[i]? =some e') (f:MapEntry->MapEntry) (hx:FZ U x (f e')):dZ U (l.set i x) (l'.modify i f):=by
 refine⟨by simp [h.1],fun k a b ha hb=>?_⟩;rw [List.getElem?_set]at ha;rw [List.getElem?_modify]at hb;by_cases hk:i=k
 ·subst hk
  have:=(List.getElem?_eq_some_iff.1 hi).1;rw [if_pos rfl,if_pos this]at ha;rw [hi']at hb;simp at ha hb;subst ha hb;exact hx
 ·rw [if_neg hk]at ha
  cases hl:l'[k]? with
  | none=>rw [hl]at hb;cases hb
  | some y=>rw [hl]at hb;simp [hk]at hb;subst hb;exact h.2 k a y ha hl
theorem dZ.aG4{l l':List MapEntry} (h:dZ U l l'){i:Nat}{e e':MapEntry} (hi:l[i]? =some e) (hi':l'[i]? =some e') (f:MapEntry->MapEntry) (hx:FZ U e (f e')):dZ U l (l'.modify i f):=by
 have:=h.Jp hi hi' f hx
 have e1:l.set i e=l:=by
  apply List.ext_getElem?;intro k;rw [List.getElem?_set];split
  ·rename_i hk;subst hk;split
   ·exact hi.symm
   ·rename_i hl;exact absurd (List.getElem?_eq_some_iff.1 hi).1 hl
  ·rfl
 rwa [e1]at this
theorem dZ.push{l l':List MapEntry} (h:dZ U l l'){e e':MapEntry} (he:FZ U e e'):dZ U (l++[e]) (l'++[e']):=by
 refine⟨by simp [h.1],fun k a b ha hb=>?_⟩;by_cases hk:k<l.length
 ·rw [List.getElem?_append_left hk]at ha
  rw [List.getElem?_append_left (by rw [<-h.1];exact hk)]at hb;exact h.2 k a b ha hb
 ·rw [List.getElem?_append_right (by omega)]at ha
  rw [List.getElem?_append_right (by rw [<-h.1];omega),<-h.1]at hb
  have:k-l.length=0:=by
   have:=(List.getElem?_eq_some_iff.1 ha).1;simpa using this
  rw [this]at ha hb;simp at ha hb;subst ha hb;exact he
theorem dZ.erase{l l':List MapEntry} (h:dZ U l l') (i:Nat):dZ U (l.eraseIdx i) (l'.eraseIdx i):=by
 refine⟨by simp [List.length_eraseIdx,h.1],fun k a b ha hb=>?_⟩;rw [List.getElem?_eraseIdx]at ha hb;split at ha
 ·rename_i hk;rw [if_pos hk]at hb;exact h.2 k a b ha hb
 ·rename_i hk;rw [if_neg hk]at hb;exact h.2 _ a b ha hb
theorem sV{t kt et:TypeId} (h:FJ P t=some (kt,et)):P.underlying t=some (.map kt et):=by
 unfold FJ at h;split at h
 ·rename_i hu;injection h with h;injection h with h1 h2;subst h1 h2;exact hu
 ·cases h
theorem OT{t:TypeId}{z:Value} (h:zeroV P t=some z) (w:World):(zeroValue t).run P w= .ok z w:=by
 unfold zeroV at h;cases hi:P.info? t with
 | none=>rw [hi]at h;cases h
 | some i=>rw [hi]at h;simp [zeroValue,Uo hi,show i.zero=some z from h]
theorem VR.key{kt:TypeId}{key key':Value} (h:VR U key key') (hk:ES P kt key=true):key'=key:=h.Up (sL hk).1
theorem JI (h:Rel P w0 U Sz w){t:TypeId}{x x' ix ix':Value}{ok:Bool}{K:VK} (hk:IC P t x ix ok Sz K=true) (hx:VR U x x') (hi:VR U ix ix'):
 ∃v v',K v Sz=true/\VR U v v'/\(Instr.lookup t x' ix' ok).run P w= .ok v' w:=by
 unfold IC at hk;split at hk
 ·rename_i kt et hm
  have hu:=sV hm;split at hk
  ·rename_i zero hkey hz
   rw [hi.key hkey]
   have main:∀(es:List MapEntry) (es':Array MapEntry),dZ U es es'.toList->QA P kt ix es (fun r=>match r with
    | some (_,e)=>match(generalizing:=false) ok with | true=>K (.tuple ⟨[e.val,.bool true]⟩) Sz | false=>K e.val Sz
    | none=>match fX zero with
     | true=>match(generalizing:=false) ok with | true=>K (.tuple ⟨[zero,.bool false]⟩) Sz | false=>K zero Sz
     | false=>false)=true->
    ∃v v',K v Sz=true/\VR U v v'/\(do
     Instr.checkKey es'.isEmpty 10000 kt ix
     let(v,o)<-match<-Instr.findKey kt ix es'.toList with
      | some (_,v)=>pure (v,true)
      | none=>pure (<-zeroValue et,false)
     pure (if ok then .tuple #[v,.bool o]else v):Sem Value).run P w= .ok v' w:=by
    intro es es' hes hk;obtain⟨r,r',hk,hrun,hr⟩:=AU hkey hk hes;rcases hr with ⟨rfl,rfl⟩ | ⟨j,e,e',rfl,h1,h2,rfl⟩
    ·simp only at hk
     split at hk
     ·rename_i hfz
      have YF:VR U zero zero:=VR.fX hfz;cases ok with
      | true=>exact⟨_,_,hk,.kN (.cons YF (.cons (.flat rfl) (.nil U))),by simp [eZ hkey,hrun,OT hz]⟩
      | false=>exact⟨_,_,hk,YF,by simp [eZ hkey,hrun,OT hz]⟩
     ·cases hk
    ·have hv:=(hes.2 j e e' h1 h2).2.2.2
     cases ok with
     | true=>exact⟨_,_,hk,.kN (.cons hv (.cons (.flat rfl) (.nil U))),by simp [eZ hkey,hrun]⟩
     | false=>exact⟨_,_,hk,hv,by simp [eZ hkey,hrun]⟩
   rcases yQ hk with ⟨rfl,hk2⟩ | ⟨r,es,c,rfl,ho,hk2⟩
   ·cases hx.of_flat rfl
    obtain⟨v,v',h1,h2,h3⟩:=main [] #[] ⟨rfl,by simp⟩ hk2;refine⟨v,v',h1,h2,?_⟩;rw [<-h3];simp [Instr.lookup,run_underlying hu];rfl
   ·obtain⟨L,hL,rfl⟩:=hx.yF
    obtain⟨es',_,hb,hes⟩:=h.map ho hL;obtain⟨v,v',h1,h2,h3⟩:=main es es' hes hk2;refine⟨v,v',h1,h2,?_⟩;rw [<-h3];simp [Instr.lookup,run_underlying hu,MapKept.run_getObj_map hb];rfl
  ·cases hk
 ·cases hk
theorem Rel.KU (h:Rel P w0 U Sz w){r:Nat}{es:List MapEntry}{c:Nat} (ho:Sz.obj r=some (.map es c)){L:Loc} (hL:U r=some L){o:Obj} (hb:w.heap[L.b]? =some o) (hbase:w0.heap.size<=L.b){es2:List MapEntry}{TK:Array MapEntry}{c2:Nat} (he:dZ U es2 TK.toList)
 (hob:∃es' c',o= .map es' c'):∃w',(setObj L.b (.map TK c2)).run P w= .ok () w'/\Rel P w0 U (Sz.set r (.map es2 c2)) w'/\Stp U w U w':=by
 obtain⟨es',c',rfl⟩:=hob;obtain⟨r1,r2⟩:=h.aA7 (o':= .map es2 c2) ho rfl rfl rfl hL hbase rfl (.map TK c2) (fun hh=>⟨L,TK,hL,hbase,hh,he⟩);exact⟨_,MapKept.run_setObj_map _ hb,r1,r2⟩
theorem YH{a b:Value} (h:Instr.sameBits 10000 a b=true) (w:World):(Instr.keyThatStays a b).run P w= .ok b w:=by simp [Instr.keyThatStays,h]
theorem CC (h:Rel P w0 U Sz w){t:TypeId}{m m' key key' x x':Value}{k:St->Bool} (hk:vQ P t m key x Sz k=true) (hm:VR U m m') (hkey':VR U key key') (hx:VR U x x'):
 ∃S' w',k S'=true/\Rel P w0 U S' w'/\Stp U w U w'/\(Instr.mapUpdate t m' key' x').run P w= .ok () w':=by
 unfold vQ at hk;split at hk
 ·rename_i kt et hmt
  have hu:=sV hmt;split at hk
  ·rename_i hkey
   rw [hkey'.key hkey];rcases yQ hk with ⟨rfl,hk2⟩ | ⟨r,es,c,rfl,ho,hk2⟩
   ·cases hk2
   ·obtain⟨L,hL,rfl⟩:=hm.yF
    obtain⟨es',hbase,hb,hes⟩:=h.map ho hL;have hk:=hk2;simp only at hk;obtain⟨q,q',hk,hrun,hr⟩:=AU hkey hk hes;rcases hr with ⟨rfl,rfl⟩ | ⟨j,e,e',rfl,h1,h2,rfl⟩
    ·simp only [jB,aT,eQ]at hk
     obtain⟨w',hw,r1,r2⟩:=h.KU (P:=P) ho hL hb hbase (es2:=es++[{key:=key,val:=x,born:=c}]) (TK:=es'.push {key:=key,val:=x',born:=c}) (c2:=c+1)
      (by rw [Array.toList_push];exact hes.push ⟨rfl,(sL hkey).1,rfl,hx⟩) ⟨_,_,rfl⟩
     exact⟨_,w',hk,r1,r2,by simp [Instr.mapUpdate,run_underlying hu,MapKept.run_getObj_map hb,eZ hkey,hrun,hw]⟩
    ·simp only [Nat.zero_add]at hk
     split at hk
     ·rename_i hsb
      rw [TL,eQ]at hk;have hrel:=hes.2 j e e' h1 h2;have hee:e.key=key:=GD hrel.2.1 (sL hkey).1 hsb
      obtain⟨w',hw,r1,r2⟩:=h.KU (P:=P) ho hL hb hbase (es2:=es.set j {e with val:=x}) (TK:=es'.modify j fun e=>{e with key:=key,val:=x'}) (c2:=c)
       (by rw [Array.toList_modify];exact hes.Jp h1 h2 _ ⟨hee.symm,hrel.2.1,hrel.2.2.1,hx⟩) ⟨_,_,rfl⟩
      refine⟨_,w',hk,r1,r2,?_⟩;have h2':es'[j]? =some e':=by simpa using h2
      have:Instr.sameBits 10000 e'.key key=true:=by rw [hrel.1];exact hsb
      simp [Instr.mapUpdate,run_underlying hu,MapKept.run_getObj_map hb,eZ hkey,hrun,h2',YH this,hw]
     ·cases hk
  ·cases hk
 ·cases hk
theorem Rel.same (h:Rel P w0 U Sz w){O:St} (ho:∀j,Sz.obj j=O.obj j) (hn:Sz.n=O.n):Rel P w0 U O w:=
 ⟨h.TM,fun i o hi=>h.BP i o ((ho i).trans hi),fun i hi=>h.dom i (by omega),fun i o hi=>by rw [<-hn];exact h.lt i o ((ho i).trans hi),h.loc,
  fun i j a b L M hij ha hb=>h.sep i j a b L M hij ((ho i).trans ha) ((ho j).trans hb),
  fun j vs e olds hj i hi=>by rw [<-hn];obtain⟨h1,h2⟩:=h.old j vs e olds ((ho j).trans hj) i hi;exact⟨h1,fun o hx=>h2 o ((ho i).trans hx)⟩,h.base⟩
theorem RN (h:Rel P w0 U Sz w){t:TypeId}{m m' key key':Value}{K:VK} (hk:OP P t m key Sz K=true) (hm:VR U m m') (hkey':VR U key key'):
 ∃v S' v' w',K v S'=true/\VR U v v'/\Rel P w0 U S' w'/\Stp U w U w'/\(Instr.mapEntry t m' key').run P w= .ok v' w':=by
 unfold OP at hk;split at hk
 ·rename_i kt et hmt
  have hu:=sV hmt;split at hk
  ·rename_i zero hkey hz
   rw [hkey'.key hkey];rcases yQ hk with ⟨rfl,hk2⟩ | ⟨r,es,c,rfl,ho,hk2⟩
   ·cases hk2
   ·obtain⟨L,hL,rfl⟩:=hm.yF
    obtain⟨es',hbase,hb,hes⟩:=h.map ho hL;have hk:=hk2;simp only at hk;obtain⟨q,q',hk,hrun,hr⟩:=AU hkey hk hes;rcases hr with ⟨rfl,rfl⟩ | ⟨j,e,e',rfl,h1,h2,rfl⟩
    ·simp only at hk
     split at hk
     ·rename_i hfz
      simp only [jB,aT,eQ]at hk
      obtain⟨w',hw,r1,r2⟩:=h.KU (P:=P) ho hL hb hbase (es2:=es++[{key:=key,val:=zero,born:=c}]) (TK:=es'.push {key:=key,val:=zero,born:=c}) (c2:=c+1)
       (by rw [Array.toList_push];exact hes.push ⟨rfl,(sL hkey).1,rfl,VR.fX hfz⟩) ⟨_,_,rfl⟩
      exact⟨_,_,_,w',hk,.kN (.cons (VR.fX hfz) (.cons (.flat rfl) (.nil U))),r1,r2,by simp [Instr.mapEntry,run_underlying hu,MapKept.run_getObj_map hb,eZ hkey,hrun,OT hz,hw];rfl⟩
     ·cases hk
    ·dsimp only at hk
     split at hk
     ·rename_i hsb
      have hrel:=hes.2 j e e' h1 h2;have hee:e.key=key:=GD hrel.2.1 (sL hkey).1 hsb
      obtain⟨w',hw,r1,r2⟩:=h.KU (P:=P) ho hL hb hbase (es2:=es) (TK:=es'.modify j fun e=>{e with key:=key}) (c2:=c)
       (by rw [Array.toList_modify];exact hes.aG4 h1 h2 _ ⟨hee.symm,hrel.2.1,hrel.2.2.1,hrel.2.2.2⟩) ⟨_,_,rfl⟩
      have hset:Sz.set r (.map es c)=Sz.set r (.map es c):=rfl;refine⟨_,Sz,_,w',hk,.kN (.cons hrel.2.2.2 (.cons (.flat rfl) (.nil U))),?_,r2,?_⟩
      ·exact r1.same (fun j=>by
        rw [wL];split
        ·rename_i e;subst e;exact ho.symm
        ·rfl) rfl
      ·have h2':es'[j]? =some e':=by simpa using h2
       have:Instr.sameBits 10000 e'.key key=true:=by rw [hrel.1];exact hsb
       simp [Instr.mapEntry,run_underlying hu,MapKept.run_getObj_map hb,eZ hkey,hrun,h2',YH this,hw,goInt,hrel.2.2.1]
     ·cases hk
  ·cases hk
 ·cases hk
end maps
section maps
variable{P:Program}{w0:World}{U:Rn}{Sz:St}{w:World}
noncomputable def Aw (n:Nat) (k:Nat->MapEntry->Bool) (es:List MapEntry):Nat->Bool:=
 eH (β:=Nat->Bool) (fun _=>false) (fun e _ ih i=>match Nat.beq e.born n with | true=>k i e | false=>bA (Nat.succ i) ih) es
theorem JJ{n:Nat}{k:Nat->MapEntry->Bool}:∀(l l':List MapEntry) (i:Nat),Aw n k l i=true->dZ U l l'->
 ∃j e e',k (i+j) e=true/\l[j]? =some e/\l'[j]? =some e'/\l'.findIdx? (fun e=>(e.born:Int)==(n:Int))=some j:=by
 intro l;induction l with
 | nil=>intro l' i hk _;cases hk
 | cons e l ih=>
  intro l' i hk hl;obtain⟨e',t',rfl,he,ht⟩:=hl.cons_inv;have hk:(match(generalizing:=false) Nat.beq e.born n with | true=>k i e | false=>bA (Nat.succ i) (Aw n k l))=true:=hk;split at hk
  ·rename_i hb
   have hb:=Nat.eq_of_beq_eq_true hb;exact⟨0,e,e',hk,rfl,rfl,by simp [List.findIdx?_cons,he.2.2.1,hb]⟩
  ·rename_i hb
   have hb:=Nat.ne_of_beq_eq_false hb;rw [aT]at hk;obtain⟨j,x,x',h1,h2,h3,h4⟩:=ih t' (i+1) hk ht;refine⟨j+1,x,x',by rw [<-h1];congr 1;omega,by simpa using h2,by simpa using h3,?_⟩;have:((e'.born:Int)==(n:Int))=false:=by rw [he.2.2.1,beq_eq_false_iff_ne];omega
   simp [List.findIdx?_cons,this,h4]
theorem LV (h:Rel P w0 U Sz w){t:TypeId}{m m' s s' x x':Value}{k:St->Bool} (hk:FY m s x Sz k=true) (hm:VR U m m') (hs:VR U s s') (hx:VR U x x'):
 ∃S' w',k S'=true/\Rel P w0 U S' w'/\Stp U w U w'/\(Instr.entryStore t m' s' x').run P w= .ok () w':=by
 unfold FY at hk;split at hk
 ·rename_i kd n
  cases hs.of_flat rfl;rcases yQ hk with ⟨rfl,hk2⟩ | ⟨r,es,c,rfl,ho,hk2⟩
  ·cases hk2
  ·obtain⟨L,hL,rfl⟩:=hm.yF
   obtain⟨es',hbase,hb,hes⟩:=h.map ho hL;have hk:=hk2;simp only at hk;obtain⟨j,e,e',hk,h1,h2,h3⟩:=JJ es es'.toList 0 hk hes;rw [TL,eQ,Nat.zero_add]at hk;have hrel:=hes.2 j e e' h1 h2
   obtain⟨w',hw,r1,r2⟩:=h.KU (P:=P) ho hL hb hbase (es2:=es.set j {e with val:=x}) (TK:=es'.modify j fun e=>{e with val:=x'}) (c2:=c)
    (by rw [Array.toList_modify];exact hes.Jp h1 h2 _ ⟨hrel.1,hrel.2.1,hrel.2.2.1,hx⟩) ⟨_,_,rfl⟩
   refine⟨_,w',hk,r1,r2,?_⟩;have h3':es'.findIdx? (fun e=>(e.born:Int)==(n:Int))=some j:=by rw [<-h3,<-List.findIdx?_toArray,Array.toArray_toList]
   have hai:(asInt (.int kd (Int.ofNat n))).run P w= .ok (n:Int) w:=by simp [asInt,asIntOf]
   simp only [Instr.entryStore,Sem.run_bind,MapKept.run_getObj_map hb,Result.andThen_ok,hai,h3',hw]
 ·cases hk
theorem WU (h:Rel P w0 U Sz w){ts:Array TypeId}{t:TypeId}{m m' key key':Value}{k:St->Bool} (hk:Ao P ts.toList m key Sz k=true) (hm:VR U m m') (hkey':VR U key key'):
 ∃S' w',k S'=true/\Rel P w0 U S' w'/\Stp U w U w'/\(Builtin.delete_ ts t #[m',key']).run P w= .ok (.tuple #[]) w':=by
 unfold Ao at hk;split at hk
 ·rename_i t0 ts' hts
  have h0:ts[0]? =some t0:=by have:=congrArg (·[0]?) hts;simpa using this
  split at hk
  ·rename_i kt et hmt
   have hu:=sV hmt;split at hk
   ·rename_i hkey
    rw [hkey'.key hkey];rcases yQ hk with ⟨rfl,hk2⟩ | ⟨r,es,c,rfl,ho,hk2⟩
    ·cases hm.of_flat rfl
     exact⟨Sz,w,hk2,h,.refl U w,by simp [Builtin.delete_,h0,run_underlying hu,eZ hkey]⟩
    ·obtain⟨L,hL,rfl⟩:=hm.yF
     obtain⟨es',hbase,hb,hes⟩:=h.map ho hL;have hk:=hk2;simp only at hk;obtain⟨q,q',hk,hrun,hr⟩:=AU hkey hk hes;rcases hr with ⟨rfl,rfl⟩ | ⟨j,e,e',rfl,h1,h2,rfl⟩
     ·simp only at hk
      obtain⟨w',hw,r1,r2⟩:=h.KU (P:=P) ho hL hb hbase (es2:=es) (TK:=es') (c2:=c) hes ⟨_,_,rfl⟩;refine⟨Sz,w',hk,?_,r2,by simp [Builtin.delete_,h0,run_underlying hu,MapKept.run_getObj_map hb,eZ hkey,hrun,hw]⟩
      exact r1.same (fun j=>by
       rw [wL];split
       ·rename_i e;subst e;exact ho.symm
       ·rfl) rfl
     ·simp only [Nat.zero_add,Qn,eQ]at hk
      obtain⟨w',hw,r1,r2⟩:=h.KU (P:=P) ho hL hb hbase (es2:=es.eraseIdx j) (TK:=es'.eraseIdxIfInBounds j) (c2:=c)
       (by
        have:(es'.eraseIdxIfInBounds j).toList=es'.toList.eraseIdx j:=by
         have hlt:j<es'.size:=by have:=(List.getElem?_eq_some_iff.1 h2).1;simpa using this
         simp [Array.eraseIdxIfInBounds,hlt]
        rw [this];exact hes.erase j) ⟨_,_,rfl⟩
      exact⟨_,w',hk,r1,r2,by simp [Builtin.delete_,h0,run_underlying hu,MapKept.run_getObj_map hb,eZ hkey,hrun,hw]⟩
   ·cases hk
  ·cases hk
 ·cases hk
theorem GE (h:Rel P w0 U Sz w){t:TypeId}{K:VK} (hk:sH Sz (.map [] 0) (fun i Sz=>K (.map (some i)) Sz)=true):
 ∃U' v S' v' w',K v S'=true/\(Instr.makeMap t none).run P w= .ok v' w'/\VR U' v v'/\Rel P w0 U' S' w'/\Stp U w U' w':=by
 rw [fO]at hk;obtain⟨r1,r2⟩:=h.new (.map [] 0) (.map #[] 0) ⟨w.heap.size,0,0,0⟩ rfl (fun U' _ hU=>⟨_,#[],hU,h.base.size,by show(w.heap.push _)[w.heap.size]? =_;simp,rfl,by simp⟩) (by simp [fD.olds]);exact⟨_,_,_,_,_,hk,by simp [Instr.makeMap,newObj];rfl,.map (Rn.iF U Sz.n _),r1,r2⟩
theorem TN (h:Rel P w0 U Sz w){t:TypeId}{r r':Value}{K:VK} (hr:VR U r r')
 (hk:(match(generalizing:=false) r,FJ P t with | .int _ _,some _=>sH Sz (.map [] 0) (fun i Sz=>K (.map (some i)) Sz) | _,_=>false)=true):
 ∃U' v S' v' w',K v S'=true/\(Instr.makeMap t (some r')).run P w= .ok v' w'/\VR U' v v'/\Rel P w0 U' S' w'/\Stp U w U' w':=by
 split at hk
 ·rename_i hm
  have hu:=sV hm;cases hr.of_flat rfl;obtain⟨U',v,S',v',w',h1,h2,h3⟩:=GE (t:=t) h hk;refine⟨U',v,S',v',w',h1,?_,h3⟩;simp [Instr.makeMap,run_underlying hu,asInt,asIntOf]at h2 ⊢;exact h2
 ·cases hk
theorem aA8 (n:Nat) (l:List Nat):aA5 n l=l.contains n:=by
 induction l with
 | nil=>rfl
 | cons m l ih=>
  show dN (Nat.beq m n) true (aA5 n l)=_;rw [ih,List.contains_cons];cases hb:Nat.beq m n with
  | true=>have:=Nat.eq_of_beq_eq_true hb;subst this;simp [dN]
  | false=>have:=Nat.ne_of_beq_eq_false hb;have h2:(n==m)=false:=by simpa using Ne.symm this
           rw [h2];rfl
theorem Uq (seen:List Nat) (k:List MapEntry->Bool) (es:List MapEntry):Em seen es k=k (es.filter fun e=> !seen.contains e.born):=by
 induction es generalizing k with
 | nil=>rfl
 | cons e es ih=>
  show dN (aA5 e.born seen) (Em seen es k) (Em seen es fun t=>k (e::t))=_;rw [aA8,ih,ih,List.filter_cons];cases hb:seen.contains e.born<;>rfl
theorem dZ.mem'{l l':List MapEntry} (h:dZ U l l'){e':MapEntry} (he:e'∈l'):∃e,e∈l/\FZ U e e':=by
 obtain⟨k,hk,rfl⟩:=List.getElem_of_mem he;have hl:k<l.length:=by rw [h.1];exact hk
 exact⟨l[k],List.getElem_mem hl,h.2 k _ _ (List.getElem?_eq_getElem hl) (List.getElem?_eq_getElem hk)⟩
theorem dZ.mem{l l':List MapEntry} (h:dZ U l l'){e:MapEntry} (he:e∈l):∃e',e'∈l'/\FZ U e e':=by
 obtain⟨k,hk,rfl⟩:=List.getElem_of_mem he;have hl:k<l'.length:=by rw [<-h.1];exact hk
 exact⟨l'[k],List.getElem_mem hl,h.2 k _ _ (List.getElem?_eq_getElem hk) (List.getElem?_eq_getElem hl)⟩
theorem WV (h:Rel P w0 U Sz w){t:TypeId}{x x':Value}{K:VK} (hk:Ap P t x Sz K=true) (hx:VR U x x'):
 ∃U' v S' v' w',K v S'=true/\(Instr.range t x').run P w= .ok v' w'/\VR U' v v'/\Rel P w0 U' S' w'/\Stp U w U' w':=by
 unfold Ap at hk;split at hk
 ·rename_i kt et hm
  have hu:=sV hm;split at hk
  ·cases hx.of_flat rfl
   rw [fO]at hk;obtain⟨r1,r2⟩:=h.new (.iter none 0 [] 0) (.mapIter none 0 #[] 0) ⟨w.heap.size,0,0,0⟩ rfl (fun U' _ hU=>⟨_,0,#[],0,⟨hU,rfl⟩,h.base.size,by show(w.heap.push _)[w.heap.size]? =_;simp⟩) (by simp [fD.olds]);exact⟨_,_,_,_,_,hk,run_range_nilMap w t _ _ hu,.ptr (Rn.iF U Sz.n _),r1,r2⟩
  ·rename_i r
   obtain⟨L,hL,rfl⟩:=hx.yF;rw [mO]at hk;cases ho:Sz.h.get r with
   | none=>rw [ho]at hk;cases hk
   | some o=>
    rw [ho]at hk;cases o with
    | map es c=>
     obtain⟨es',hbase,hb,hes⟩:=h.map ho hL;have hk:sH Sz (.iter (some r) c [] c) (fun i Sz=>K (.pointer (some ⟨i,0,none⟩)) Sz)=true:=hk;rw [fO]at hk
     obtain⟨r1,r2⟩:=h.new (.iter (some r) c [] c) (.mapIter (some L.b) c #[] c) ⟨w.heap.size,0,0,0⟩ rfl
      (fun U' he hU=>⟨_,L,⟨hU,rfl⟩,h.base.size,he _ _ hL,by show(w.heap.push _)[w.heap.size]? =_;simp⟩) (by simp [fD.olds])
     exact⟨_,_,_,_,_,hk,run_range_map w t _ _ L.b es' c hu hb,.ptr (Rn.iF U Sz.n _),r1,r2⟩
    | _=>cases hk
  ·cases hk
 ·cases hk
theorem Es (h:Rel P w0 U Sz w){ty:TypeId}{x x':Value}{K:VK} (hk:Ul x Sz K=true) (hx:VR U x x'):
 ∃v S' v' w',K v S'=true/\(Instr.next x' false ty).run P w= .ok v' w'/\VR U v v'/\Rel P w0 U S' w'/\Stp U w U w':=by
 unfold Ul at hk;split at hk
 ·rename_i i
  obtain⟨_,L,hL,rfl⟩:=hx.yD;rw [mO]at hk;cases ho:Sz.h.get i with
  | none=>rw [ho]at hk;cases hk
  | some o=>
   rw [ho]at hk;cases o with
   | iter m since seen last=>
    cases m with
    | none=>
     have hk:K (.tuple ⟨[.bool false]⟩) Sz=true:=hk;obtain⟨L',a,b,c,⟨h1,hs⟩,h2,h3⟩:=h.BP i _ ho;rw [hL]at h1;injection h1 with h1;subst h1;refine⟨_,Sz,_,w,hk,?_,.kN (.cons (.flat rfl) (.nil U)),h,.refl U w⟩;rw [hs];simp only [Instr.next,getObj,Sem.run_bind,Sem.run,h3,Result.andThen];rfl
    | some r=>
     obtain⟨L',M,⟨h1,hs⟩,h2,h3,h4⟩:=h.BP i _ ho;rw [hL]at h1;injection h1 with h1;subst h1;rw [hs]
     have hk:nY Sz.h r (fun o=>match o with
      | .map es c=>match allB (fun e=>Nat.blt e.born since) es,Nat.ble since last with
       | true,true=>Em seen es fun l=>match l with
        | []=>K (.tuple ⟨[.bool false]⟩) Sz
        | e::t=>allB (fun e=>wP seen [e.born] fun seen=>mS Sz i (.iter (some r) since seen c) fun Sz=>K (.tuple ⟨[.bool true,e.key,e.val]⟩) Sz) (e::t)
       | _,_=>false
      | _=>false)=true:=hk
     rw [mO]at hk;cases ho2:Sz.h.get r with
     | none=>rw [ho2]at hk;cases hk
     | some o2=>
      rw [ho2]at hk;cases o2 with
      | map es c=>
       obtain⟨es',hbase,hb,hes⟩:=h.map ho2 h3;dsimp only at hk;split at hk
       ·rename_i hold hsc
        rw [jT]at hold;have hsc:=Nat.le_of_ble_eq_true hsc
        have hold':∀x∈es'.toList,x.born<since:=by
         intro x hx;obtain⟨e,he,hr⟩:=hes.mem' hx;have:=List.all_eq_true.1 hold e he;rw [hr.2.2.1];exact Nat.le_of_ble_eq_true this
        rw [Uq]at hk
        have hleft:∀e'∈(leftOf es' ⟨seen⟩).toList,∃e,e∈es.filter (fun e=> !seen.contains e.born)/\FZ U e e':=by
         intro e' he';unfold leftOf at he';rw [Array.toList_filter]at he';obtain⟨h5,h6⟩:=List.mem_filter.1 he';obtain⟨e,he,hr⟩:=hes.mem' h5;refine⟨e,List.mem_filter.2 ⟨he,?_⟩,hr⟩;rw [hr.2.2.1]at h6;simpa using h6
        rcases run_next_at (P:=P) w ty L.b M.b since last ⟨seen⟩ es' c h4 hb hold' hsc with ⟨h0,hrun⟩ | ⟨e',he',w1,hw1,hrun⟩
        ·have hnil:es.filter (fun e=> !seen.contains e.born)=[]:=by
          cases hf:es.filter (fun e=> !seen.contains e.born)with
          | nil=>rfl
          | cons e t=>
           exfalso;have hm:e∈es.filter (fun e=> !seen.contains e.born):=by rw [hf];exact .head _
           obtain⟨h5,h6⟩:=List.mem_filter.1 hm;obtain⟨e',he',hr⟩:=hes.mem h5
           have:e'∈(leftOf es' ⟨seen⟩).toList:=by
            unfold leftOf;rw [Array.toList_filter];refine List.mem_filter.2 ⟨he',?_⟩;rw [hr.2.2.1];simpa using h6
           have hz:(leftOf es' ⟨seen⟩).toList=[]:=List.eq_nil_of_length_eq_zero (by simpa using h0);rw [hz]at this;cases this
         rw [hnil]at hk;exact⟨_,Sz,_,w,hk,hrun,.kN (.cons (.flat rfl) (.nil U)),h,.refl U w⟩
        ·obtain⟨e,he,hr⟩:=hleft e' he'
         have hall:(es.filter (fun e=> !seen.contains e.born)).all (fun e=>wP seen [e.born] fun seen=>mS Sz i (.iter (some r) since seen c) fun Sz=>K (.tuple ⟨[.bool true,e.key,e.val]⟩) Sz)=true:=by
          cases hf:es.filter (fun e=> !seen.contains e.born)with
          | nil=>rfl
          | cons x t=>rw [hf]at hk;simp only [jT]at hk;exact hk
         have hk:=List.all_eq_true.1 hall e he;rw [jB,eQ]at hk
         have aFh:Rel P w0 U Sz w1/\Stp U w U w1/\w1.heap=w.heap:=by
          rcases hw1 with rfl | rfl
          ·exact⟨h,.refl _ _,rfl⟩
          ·exact⟨h.drew,.drew _ _,rfl⟩
         obtain⟨hr1,hs1,hh1⟩:=aFh
         obtain⟨r1,r2⟩:=hr1.aA7 (o':= .iter (some r) since (seen++[e.born]) c) ho rfl rfl rfl hL h2 rfl (.mapIter (some M.b) since ((⟨seen⟩:Array Nat).push e'.born) c)
          (fun hnew=>⟨L,M,⟨hL,hs⟩,h2,h3,by rw [hnew,hr.2.2.1];simp⟩)
         exact⟨_,_,_,_,hk,hrun,.kN (.cons (.flat rfl) (.cons (by rw [hr.1];exact .fX hr.2.1) (.cons hr.2.2.2 (.nil U)))),r1,hs1.trans r2⟩
       ·cases hk
      | _=>cases hk
   | _=>cases hk
 ·cases hk
theorem Jq{l:List Nat}{k:Nat->Bool} (hk:Um l k=true):∃b,l.getLast?=some b/\k b=true:=by
 induction l with
 | nil=>cases hk
 | cons n t ih=>
  cases t with
  | nil=>exact⟨n,rfl,hk⟩
  | cons m t=>
   obtain⟨b,h1,h2⟩:=ih hk;exact⟨b,by rw [List.getLast?_cons_cons];exact h1,h2⟩
theorem Ax (h:Rel P w0 U Sz w){x x':Value}{K:VK} (hk:Jn x Sz K=true) (hx:VR U x x'):
 ∃v v',K v Sz=true/\VR U v v'/\(Instr.entry x').run P w= .ok v' w:=by
 unfold Jn at hk;split at hk
 ·rename_i i
  obtain⟨_,L,hL,rfl⟩:=hx.yD;rw [mO]at hk;cases ho:Sz.h.get i with
  | none=>rw [ho]at hk;cases hk
  | some o=>
   rw [ho]at hk;cases o with
   | iter m since seen last=>
    cases m with
    | none=>cases hk
    | some r=>
     obtain⟨L',M,⟨h1,hs⟩,h2,h3,h4⟩:=h.BP i _ ho;rw [hL]at h1;injection h1 with h1;subst h1;rw [hs]
     replace hk:nY Sz.h r (fun o=>match o with
      | .map es c=>match Nat.beq c last with
       | true=>Um seen fun b=>Uj b es fun _ e=>K (.tuple ⟨[e.key,e.val]⟩) Sz
       | false=>false
      | _=>false)=true:=hk
     rw [mO]at hk;cases ho2:Sz.h.get r with
     | none=>rw [ho2]at hk;cases hk
     | some o2=>
      rw [ho2]at hk;cases o2 with
      | map es c=>
       obtain⟨es',hbase,hb,hes⟩:=h.map ho2 h3;dsimp only at hk;split at hk
       ·rename_i hcl
        obtain rfl:=Nat.eq_of_beq_eq_true hcl;obtain⟨b,hlast,hk⟩:=Jq hk;have hk:Aw b (fun _ e=>K (.tuple ⟨[e.key,e.val]⟩) Sz) es 0=true:=hk;obtain⟨j,e,e',hk,he,he',hf⟩:=JJ es es'.toList 0 hk hes;have hr:=hes.2 j e e' he he';refine⟨_,_,hk,.kN (.cons (.fX hr.2.1) (.cons hr.2.2.2 (.nil U))),?_⟩;have hback:(⟨seen⟩:Array Nat).back?=some b:=by simpa using hlast
        have hfind:es'.find? (·.born==b)=some e':=by
         rw [<-Array.find?_toList]
         have hf2:es'.toList.findIdx? (fun e=>e.born==b)=some j:=by
          rw [<-hf];congr 1;funext x;rw [Bool.eq_iff_iff,beq_iff_eq,beq_iff_eq];omega
         obtain⟨hlt,hp,hbef⟩:=List.findIdx?_eq_some_iff_getElem.1 hf2;rw [List.find?_eq_some_iff_getElem]
         have hgj:es'.toList[j]=e':=by
          have:=List.getElem?_eq_getElem hlt;rw [this]at he';injection he'
         exact⟨by rw [<-hgj];exact hp,j,hlt,hgj,fun k hk=>by simpa using hbef k hk⟩
        simp only [Instr.entry,getObj,Sem.run_bind,Sem.run,h4,hb,Result.andThen,hback,bne_self_eq_false,Bool.false_eq_true,if_false,hfind];rw [hr.1];rfl
       ·cases hk
      | _=>cases hk
   | _=>cases hk
 ·cases hk
theorem GF{t as xT:TypeId}{v:Value}{d:TypeDesc}{ok:Bool} (hd:P.underlying as=some d) (hi:∀ms,d≠ .interface ms) (ht:t=as):
 (Instr.typeAssert (.iface t v) xT as ok).run P w= .ok (if ok then .tuple #[v,.bool true]else v) w:=by
 subst ht;simp only [Instr.typeAssert,Sem.run_bind,run_underlying hd,Result.andThen_ok];cases d<;>first | exact absurd rfl (hi _) | (cases ok<;>simp)
end maps
section app
variable{P:Program}{w0:World}{U:Rn}{Sz:St}{w:World}
theorem LW (h:Rel P w0 U Sz w){size n:Nat}{x x':Value}{k:List Value->Bool} (hk:BN Sz size n x k=true) (hx:VR U x x'):
 ∃cs cs',k cs=true/\gW U cs cs'/\cs'.length=n*size/\(Builtin.firstCells size n x').run P w= .ok ⟨cs'⟩ w/\(Builtin.firstCells size n x').run P w.drew= .ok ⟨cs'⟩ w.drew:=by
 unfold BN at hk;split at hk
 ·cases hx.of_flat rfl
  split at hk
  ·exact⟨_,[],hk,.nil U,by simp,rfl,rfl⟩
  ·cases hk
 ·rename_i i o sp len c
  split at hk
  ·rcases hx.iI with ⟨L,c',hL,rfl,_⟩ | ⟨⟨s1,h1⟩,rfl,rfl,a,c',rfl⟩
   ·exact⟨_,[],hk,.nil U,by simp,by simp [Builtin.firstCells,loadCells,loadCellsFrom],by simp [Builtin.firstCells,loadCells,loadCellsFrom]⟩
   ·exact⟨_,[],hk,.nil U,by simp,by simp [Builtin.firstCells,loadCells,loadCellsFrom],by simp [Builtin.firstCells,loadCells,loadCellsFrom]⟩
  ·rename_i n
   split at hk
   ·cases hk
   ·rename_i hsp
    rcases hx.iI with ⟨L,c',hL,rfl,_⟩ | ⟨⟨s1,h1⟩,rfl,rfl,a,c',rfl⟩
    ·obtain⟨vs,e',ck,ho,hle,hk⟩:=vS hk
     obtain⟨l',hl',hlen,hc⟩:=h.yP ho hL hle;exact⟨_,l',hk,hl',hlen,run_loadCells (P:=P) _ l' hlen hc,run_loadCells (P:=P) (w:=w.drew) _ l' hlen hc⟩
    ·exact absurd h1 (hsp s1)
 ·rename_i s
  cases hx.of_flat rfl;split at hk
  ·rw [wQ]at hk
   split at hk
   ·rename_i hle
    rw [Au]at hk
    have hd:((s.extract 0 n).data.map fun b=>Value.int .u8 (b.toNat:Int))=⟨(s.data.toList.take n).map fun b=>Value.int .u8 (b.toNat:Int)⟩:=by
     apply Array.toList_inj.1;simp
    refine⟨_,_,hk,.flat (by intro v hv;obtain⟨b,_,rfl⟩:=List.mem_map.1 hv;rfl),by simp at hle ⊢;omega,?_,?_⟩
    ·simp only [Builtin.firstCells,Sem.run_pure];rw [hd]
    ·simp only [Builtin.firstCells,Sem.run_pure];rw [hd]
   ·cases hk
  ·cases hk
 ·cases hk
theorem QE{x x':Value}{k:Nat->Bool} (hk:ET x k=true) (hx:VR U x x'):∃n,k n=true/\(∀w,(Builtin.lenOf x').run P w= .ok n w)/\∀size w,(Builtin.firstCells size 0 x').run P w= .ok #[] w:=by
 unfold ET at hk;split at hk
 ·rename_i n c
  have f0:∀(a:Addr) (n c size:Nat) (w:World),(Builtin.firstCells size 0 (.slice (some a) n c)).run P w= .ok #[] w:=fun a n c size w=>by simp [Builtin.firstCells,loadCells,loadCellsFrom]
  cases hx with
  | flat hf=>
   rename_i base;cases base with
   | none=>exact⟨n,hk,fun w=>rfl,fun _ w=>rfl⟩
   | some a=>simp [aY]at hf
  | slice _=>exact⟨n,hk,fun w=>rfl,fun _ w=>f0 _ _ _ _ w⟩
  | mN _ _ _ _ _=>exact⟨n,hk,fun w=>rfl,fun _ w=>f0 _ _ _ _ w⟩
  | uC=>exact⟨_,hk,fun w=>rfl,fun _ w=>f0 _ _ _ _ w⟩
  | uD _=>exact⟨_,hk,fun w=>rfl,fun _ w=>f0 _ _ _ _ w⟩
 ·rename_i s
  cases hx.of_flat rfl;rw [jS]at hk;exact⟨_,hk,fun w=>rfl,fun _ w=>by simp [Builtin.firstCells]⟩
 ·cases hk
theorem YI{d:Option TypeDesc} (h:WQ d=true):(∃e,d=some (.slice e))\/d=some .string:=by
 unfold WQ at h;split at h
 ·exact .inl ⟨_,rfl⟩
 ·exact .inr rfl
 ·cases h
section runs
variable{ts:Array TypeId}{ty t tx e:TypeId}{i:TypeInfo}{z:Value}{base:Option Addr}{sLen sCap n:Nat}{x:Value}{news olds:List Value}{w1:World}
theorem DN (h0:ts[0]? =some t) (h1:ts[1]? =some tx) (ht:P.underlying t=some (.slice e)) (hx:WQ (P.underlying tx)=true) (hi:P.info? e=some i)
 (hlen:∀w,(Builtin.lenOf x).run P w= .ok n w) (hroom:sLen+n<=sCap) (hc:(Builtin.firstCells i.size n x).run P w= .ok ⟨news⟩ w)
 (hst:∀a,base=some a->(storeCells (a.add (sLen*i.size)) news).run P w= .ok () w1) (hno:base=none->w1=w):
 (Builtin.append_ ts ty #[.slice base sLen sCap,x]).run P w= .ok (.slice base (sLen+n) sCap) w1:=by
 rcases YI hx with ⟨e',hx⟩ | hx
 all_goals cases base with
  | none=>cases hno rfl;simp [Builtin.append_,h0,h1,run_underlying ht,run_underlying hx,sizeOf,typeInfo,hi,hlen,hroom,hc]
  | some a=>simp [Builtin.append_,h0,h1,run_underlying ht,run_underlying hx,sizeOf,typeInfo,hi,hlen,hroom,hc,hst a rfl]
theorem DO (h0:ts[0]? =some t) (h1:ts[1]? =some tx) (ht:P.underlying t=some (.slice e)) (hx:WQ (P.underlying tx)=true) (hi:P.info? e=some i) (hz:i.zero=some z)
 (hlen:∀w,(Builtin.lenOf x).run P w= .ok n w) (hroom:sCap<sLen+n) (hbytes:(sLen+n)*(i.bytes+1)<=1099511627776) (hold:(Builtin.firstCells i.size sLen (.slice base sLen sCap)).run P w.drew= .ok ⟨olds⟩ w.drew)
 (hc:(Builtin.firstCells i.size n x).run P w.drew= .ok ⟨news⟩ w.drew):
 (Builtin.append_ ts ty #[.slice base sLen sCap,x]).run P w= .ok (.slice (some ⟨w.heap.size,0,none⟩) (sLen+n) (grownCap w (sLen+n) sCap e))
  (w.drew.alloc (.cells ⟨(olds++news)++(List.replicate (grownCap w (sLen+n) sCap e-(sLen+n)) z.cells.toList).flatten⟩ e)):=by
 have hn:¬(sLen+n<=sCap):=by omega
 have hb:(sLen+n)*i.bytes<=1099511627776:=by rw [Nat.mul_succ]at hbytes;omega
 have hb2:sLen+n<=1099511627776:=by rw [Nat.mul_succ]at hbytes;omega
 have h63':¬(9223372036854775807<((sLen:Int)+(n:Int))):=by omega
 have h48:=growslice_fits (bytes:=i.bytes) hroom (by omega);have h48':¬(281474976710656<Builtin.nextslicecap (sLen+n) sCap*i.bytes):=by omega
 have hzz:∀m,Builtin.zeroCells z.cells m=⟨(List.replicate m z.cells.toList).flatten⟩:=by
  intro m;by_cases hne:z.cells.toList=[]
  ·have:z.cells= #[]:=Array.toList_inj.1 hne
   apply Array.toList_inj.1;simp [Builtin.zeroCells,this]
  ·exact CA z.cells.toList z.cells rfl m hne
 rcases YI hx with ⟨e',hx⟩ | hx<;>
  simp [Builtin.append_,h0,h1,run_underlying ht,run_underlying hx,sizeOf,typeInfo,zeroValue,hi,hz,hlen,hn,h63',h48',Question.forced,hc,hold,newRow,grownCap,hzz]
end runs
end app
section app
variable{P:Program}{w0:World}{U:Rn}{Sz:St}{w:World}
theorem Rel.stale (h:Rel P w0 U Sz w){b:Nat}{vs:List Value}{e:TypeId}{olds:List Nat} (ho:Sz.obj b=some (.cells vs e (.grown olds))):Rel P w0 U (Sz.set b (.cells vs e .stale)) w:=by
 have hcase:∀j x,(Sz.set b (.cells vs e .stale)).obj j=some x->(j=b/\x= .cells vs e .stale)\/(j≠b/\Sz.obj j=some x):=fun j x hx=>by
  rw [wL]at hx;by_cases e:j=b
  ·rw [if_pos e]at hx;injection hx with hx;exact .inl ⟨e,hx.symm⟩
  ·rw [if_neg e]at hx;exact .inr ⟨e,hx⟩
 have hsh:∀(j:Nat) (y:fD),y.sK=false->Sz.obj j=some y->Ur b j (.cells vs e (.grown olds)) y->y.reads=true:=by
  intro j y hd hy hs;rcases hs with ⟨h1,_⟩ | h1 | h1
  ·cases h1
  ·obtain⟨_,h2⟩:=h.old b vs e olds ho j h1
   rcases h2 y hy with h3 | ⟨ws,t',h3,_⟩
   ·rw [h3]at hd;cases hd
   ·rw [h3];rfl
  ·cases y with
   | cells us t k=>
    cases k with
    | grown l=>
     obtain⟨_,h2⟩:=h.old j us t l hy b h1;rcases h2 _ ho with h3 | ⟨ws,t',h3,_⟩
     ·cases h3
     ·injection h3 with _ _ h3;cases h3
    | _=>cases h1
   | _=>cases h1
 refine⟨h.TM,fun j x hx=>?_,h.dom,fun j x hx=>?_,h.loc,fun i j x y L M hij hx hy hdx hdy hL hM hb=>?_,fun j us t l hj i hi=>?_,h.base⟩
 ·rcases hcase j x hx with ⟨rfl,rfl⟩ | ⟨_,hx⟩
  ·obtain⟨L,cs,t,fz,h1,h2,h3,h4⟩:=h.BP _ _ ho
   exact⟨L,cs,t,fz,h1,h2,h3,h4.1,h4.2.2.2⟩
  ·exact h.BP j x hx
 ·rcases hcase j x hx with ⟨rfl,_⟩ | ⟨_,hx⟩
  ·exact h.lt _ _ ho
  ·exact h.lt j x hx
 ·rcases hcase i x hx with ⟨e1,e2⟩ | ⟨e1,hx1⟩<;>rcases hcase j y hy with ⟨f1,f2⟩ | ⟨f1,hy1⟩
  ·exact absurd (e1.trans f1.symm) hij
  ·subst e1 e2
   exact .inl ⟨rfl,hsh j y hdy hy1 (h.sep i j _ y L M hij ho hy1 rfl hdy hL hM hb)⟩
  ·subst f1 f2
   have:=h.sep j i _ x M L (Ne.symm hij) ho hx1 rfl hdx hM hL hb.symm;exact .inl ⟨hsh i x hdx hx1 this,rfl⟩
  ·exact h.sep i j x y L M hij hx1 hy1 hdx hdy hL hM hb
 ·rcases hcase j _ hj with ⟨_,e2⟩ | ⟨e1,hj⟩
  ·injection e2 with _ _ e2;cases e2
  ·obtain⟨h1,h2⟩:=h.old j us t l hj i hi
   refine⟨h1,fun x hx=>?_⟩;rcases hcase i x hx with ⟨rfl,rfl⟩ | ⟨_,hx⟩
   ·rcases h2 _ ho with h3 | ⟨ws,t',h3,_⟩
    ·cases h3
    ·injection h3 with _ _ h3;cases h3
   ·exact h2 x hx
theorem Rel.aFi (h:Rel P w0 U Sz w){b:Nat}{L:Loc} (hL:U b=some L){vs:List Value}{e:TypeId} (ho:Sz.obj b=some (.cells vs e .stale)){olds:List Nat}
 (holds:∀i∈olds,i<Sz.n/\∀x,Sz.obj i=some x->Et U b vs i x)
 (Ay:∀j x M,Sz.obj j=some x->x.sK=false->U j=some M->M.b=L.b->j=b\/j∈olds)
 {cs cs':Array Value} {t:TypeId} {fz:Nat×Nat} (hb:w.heap[L.b]? =some (.cells cs t fz)) (hsz:cs'.size=cs.size) (hsame:∀j,j<L.s+vs.length->cs'[j]? =cs[j]?)
 {e2:TypeId} {s2:Nat} {new:List Value} (hlen:L.s+vs.length<=s2+new.length) (hnew:∀(j:Nat) (v:Value),new[j]? =some v->∃v',cs'[s2+j]? =some v'/\VR U v v')
 (hfz:TO cs.size fz) (hLe:L.e=cs.size) (hm:bL P e2=some L.m) (he2:e=e2) (hbase:w0.heap.size<=L.b):
 Rel P w0 (U.put Sz.n ⟨L.b,s2,L.e,L.m⟩) (Sz.new (.cells new e2 (.grown (b::olds)))) (w.putObj L.b (.cells cs' t fz))/\Stp U w (U.put Sz.n ⟨L.b,s2,L.e,L.m⟩) (w.putObj L.b (.cells cs' t fz)):=by
 have hnone:=h.dom Sz.n (Nat.le_refl _);have he:Ext U (U.put Sz.n ⟨L.b,s2,L.e,L.m⟩):=Rn.DP hnone;have hget:=KW (w:=w) (x:= .cells cs' t fz) hb
 have hput:∀j M,U.put Sz.n ⟨L.b,s2,L.e,L.m⟩ j=some M->(j=Sz.n/\M=⟨L.b,s2,L.e,L.m⟩)\/(j≠Sz.n/\U j=some M):=fun j M hj=>by
  unfold Rn.put at hj;by_cases e:j=Sz.n
  ·rw [if_pos e]at hj;injection hj with hj;exact .inl ⟨e,hj.symm⟩
  ·rw [if_neg e]at hj;exact .inr ⟨e,hj⟩
 have oB:∀j x,(Sz.new (.cells new e2 (.grown (b::olds)))).obj j=some x->(j=Sz.n/\x= .cells new e2 (.grown (b::olds)))\/(j≠Sz.n/\Sz.obj j=some x):=fun j x hx=>by
  rw [IE]at hx;by_cases e:j=Sz.n
  ·rw [if_pos e]at hx;injection hx with hx;exact .inl ⟨e,hx.symm⟩
  ·rw [if_neg e]at hx;exact .inr ⟨e,hx⟩
 have hblt:=h.lt b _ ho
 have hte:t=e2:=by
  obtain⟨L',cs0,t0,fz0,k1,k2,_,k4⟩:=h.BP b _ ho;rw [hL]at k1;injection k1 with k1;subst k1;rw [hb]at k2;injection k2 with k2;injection k2 with _ k2 _;rw [k2,<-he2];exact k4.2.2
 refine⟨⟨fun g hg=>let⟨M,h1,h2⟩:=h.TM g hg;⟨M,he _ _ h1,h2⟩,fun j x hx=>?_,fun j hj=>?_,fun j x hx=>?_,fun j M hj=>?_,fun i j x y M N hij hx hy hdx hdy hM hN WS=>?_,fun j us t' l hj i hi=>?_,?_⟩,he,⟨by rw [putObj_size];omega,fun c _ hc=>uF (Ne.symm (hc b L hL))⟩,fun j M hj=>?_⟩
 ·rcases oB j x hx with ⟨rfl,rfl⟩ | ⟨e1,hx1⟩
  ·refine⟨_,cs',t,fz,Rn.iF _ _ _,hget,fun j v hj=>?_,hbase,by rw [hsz];exact hfz,by rw [hsz];exact hLe,hm,hte⟩
   obtain⟨v',h1,h2⟩:=hnew j v hj;exact⟨v',h1,h2.mono he⟩
  ·cases hd:x.sK with
   | true=>cases x<;>first | trivial | cases hd
   | false=>
    obtain⟨M,hM⟩:=(h.BP j x hx1).loc hd;by_cases hMb:M.b=L.b
    ·
      have hext:∃ws e',x= .cells ws e' .stale/\M.s+ws.length<=L.s+vs.length:=by
       rcases Ay j x M hx1 hd hM hMb with e2 | hin
       ·subst e2
        rw [ho]at hx1;injection hx1 with hx1;rw [hL]at hM;injection hM with hM;subst hM;exact⟨vs,e,hx1.symm,Nat.le_refl _⟩
       ·rcases(holds j hin).2 x hx1 with h3 | ⟨ws,e',h3,h4⟩
        ·rw [h3]at hd;cases hd
        ·exact⟨ws,e',h3,h4 L M hL hM hMb⟩
      obtain⟨ws,e',rfl,hle⟩:=hext;obtain⟨M',cs0,t0,fz0,h1,h2,h3,h4⟩:=h.BP j _ hx1;rw [hM]at h1;injection h1 with h1;subst h1;rw [hMb,hb]at h2;injection h2 with h2;injection h2 with h2 h2a h2b;subst h2 h2a h2b;refine⟨M,cs',t,fz,he _ _ hM,by rw [hMb];exact hget,fun q v hq=>?_,h4⟩;obtain⟨v',g1,g2⟩:=h3 q v hq;have hql:q<ws.length:=(List.getElem?_eq_some_iff.1 hq).1;exact⟨v',(hsame _ (by omega)).trans g1,g2.mono he⟩
    ·exact(h.BP j x hx1).frame he fun M' hM'=>by rw [hM]at hM';injection hM' with hM';subst hM';exact uF hMb
 ·have hj':Sz.n+1<=j:=hj
  unfold Rn.put;rw [if_neg (by omega)];exact h.dom j (by omega)
 ·rcases oB j x hx with ⟨e1,_⟩ | ⟨_,hx1⟩
  ·subst e1;exact Nat.lt_succ_self _
  ·exact Nat.lt_succ_of_lt (h.lt j x hx1)
 ·rw [putObj_size]
  rcases hput j M hj with ⟨_,rfl⟩ | ⟨_,hM⟩
  ·exact h.loc b L hL
  ·exact h.loc j M hM
 ·rcases oB i x hx with ⟨e1,e2⟩ | ⟨e1,hx1⟩<;>rcases oB j y hy with ⟨f1,f2⟩ | ⟨f1,hy1⟩
  ·exact absurd (e1.trans f1.symm) hij
  ·rcases hput i M hM with ⟨_,rfl⟩ | ⟨e3,_⟩
   ·rcases hput j N hN with ⟨f3,_⟩ | ⟨_,hN1⟩
    ·exact absurd f3 f1
    ·rw [e2]
     rcases Ay j y N hy1 hdy hN1 WS.symm with h5 | h5
     ·exact .inr (.inl (by rw [h5];exact .head _))
     ·exact .inr (.inl (.tail _ h5))
   ·exact absurd e1 e3
  ·rcases hput j N hN with ⟨_,rfl⟩ | ⟨f3,_⟩
   ·rcases hput i M hM with ⟨e3,_⟩ | ⟨_,hM1⟩
    ·exact absurd e3 e1
    ·rw [f2]
     rcases Ay i x M hx1 hdx hM1 WS with h5 | h5
     ·exact .inr (.inr (by rw [h5];exact .head _))
     ·exact .inr (.inr (.tail _ h5))
   ·exact absurd f1 f3
  ·rcases hput i M hM with ⟨e3,_⟩ | ⟨_,hM1⟩
   ·exact absurd e3 e1
   ·rcases hput j N hN with ⟨f3,_⟩ | ⟨_,hN1⟩
    ·exact absurd f3 f1
    ·exact h.sep i j x y M N hij hx1 hy1 hdx hdy hM1 hN1 WS
 ·rcases oB j _ hj with ⟨e1,e2⟩ | ⟨e1,hj1⟩
  ·injection e2 with e2 e3 e4
   injection e4 with e4;subst e1 e2 e4
   have hib:i<Sz.n/\∀x,Sz.obj i=some x->Et U b vs i x:=by
    rcases List.mem_cons.1 hi with h5 | h5
    ·subst h5
     refine⟨hblt,fun x hx=> .inr ⟨vs,e,?_,?_⟩⟩
     ·rw [ho]at hx;injection hx with hx;exact hx.symm
     ·intro L1 M1 g1 g2 _;rw [g1]at g2;injection g2 with g2;subst g2;exact Nat.le_refl _
    ·exact holds i h5
   refine⟨Nat.lt_succ_of_lt hib.1,fun x hx=>?_⟩;rcases oB i x hx with ⟨e5,_⟩ | ⟨e5,hx1⟩
   ·exact absurd e5 (by have:=hib.1;omega)
   ·rcases hib.2 x hx1 with h6 | ⟨ws,e',h6,h7⟩
    ·exact .inl h6
    ·refine .inr ⟨ws,e',h6,fun L1 M1 g1 g2 gb=>?_⟩
     rcases hput _ _ g1 with ⟨_,rfl⟩ | ⟨g3,_⟩
     ·rcases hput _ _ g2 with ⟨g4,_⟩ | ⟨_,g4⟩
      ·exact absurd g4 e5
      ·have:=h7 L M1 hL g4 gb
       simp only;omega
     ·exact absurd rfl g3
  ·obtain⟨h1,h2⟩:=h.old j us t' l hj1 i hi
   refine⟨Nat.lt_succ_of_lt h1,fun x hx=>?_⟩;rcases oB i x hx with ⟨e3,_⟩ | ⟨e3,hx1⟩
   ·omega
   ·rcases h2 x hx1 with h3 | ⟨ws,e',h3,h4⟩
    ·exact .inl h3
    ·refine .inr ⟨ws,e',h3,fun L1 M1 g1 g2 gb=>?_⟩
     rcases hput _ _ g1 with ⟨g3,_⟩ | ⟨_,g3⟩
     ·exact absurd g3 e1
     ·rcases hput _ _ g2 with ⟨g5,_⟩ | ⟨_,g5⟩
      ·exact absurd g5 e3
      ·exact h4 L1 M1 g3 g5 gb
 ·exact⟨h.base.os,h.base.tape,h.base.output,by rw [putObj_size];exact h.base.size,fun k hk=>(uF (by omega)).trans (h.base.block k hk)⟩
 ·rcases hput j M hj with ⟨_,rfl⟩ | ⟨_,hM⟩
  ·exact .inr (.inr ⟨b,L,hL,rfl⟩)
  ·exact .inl hM
end app
section app
variable{P:Program}{w0:World}{U:Rn}{Sz:St}{w:World}
theorem QF{t e:TypeId} (h:isSlice P t=some e):P.underlying t=some (.slice e):=dR h
theorem Us (n:Nat) (z:List Value){m:Nat} (h:z.length=m):(List.replicate n z).flatten.length=n*m:=by simp [h]
theorem Rel.fresh (h:Rel P w0 U Sz w){cs cs' zl:List Value} (hcs:gW U cs cs'){need size g:Nat}{elem:TypeId} (hl:cs'.length=need*size) (hm:bL P elem=some size) (hz:zl.length=size) (hpos:0<size) (hg:need<=g){olds:List Nat}
 (hold:∀i∈olds,i<Sz.n/\∀x,Sz.obj i=some x->x= .dead\/∃ws e,x= .cells ws e .stale):
 ∃U',VR U' (.slice (some ⟨Sz.n,0,some 0⟩) need need) (.slice (some ⟨w.heap.size,0,none⟩) need g)/\Rel P w0 U' (Sz.new (.cells cs elem (.grown olds))) (w.drew.alloc (.cells ⟨cs'++(List.replicate (g-need) zl).flatten⟩ elem))/\
  Stp U w U' (w.drew.alloc (.cells ⟨cs'++(List.replicate (g-need) zl).flatten⟩ elem)):=by
 obtain⟨r1,r2⟩:=h.drew.Eo (more:=(List.replicate (g-need) zl).flatten) hcs elem hm (0,0) (by intro x _;omega) olds hold;have hL:=Rn.iF U Sz.n ⟨w.drew.heap.size,0,(cs'++(List.replicate (g-need) zl).flatten).length,size⟩;refine⟨_,?_,r1,(Stp.drew U w).trans r2⟩
 have hlen:(cs'++(List.replicate (g-need) zl).flatten).length=g*size:=by
  rw [List.length_append,hl,Us _ _ hz,<-Nat.add_mul]
  congr 1
  omega
 exact VR.mN (o:=0) (n:=need) (c:=need) (c':=g) hL hg (Nat.le_refl _) (by simp only [hlen];omega) hpos
theorem Az (h:Rel P w0 U Sz w){ts:Array TypeId}{ty t tx e:TypeId}{i:TypeInfo}{size:Nat} (h0:ts[0]? =some t) (h1:ts[1]? =some tx) (ht:P.underlying t=some (.slice e)) (WW:WQ (P.underlying tx)=true) (hi:P.info? e=some i) (hsize:i.size=size)
 {base:Option Addr} {sLen sCap n:Nat} {s' _x x':Value} {new new':List Value} {K:VK} (hs:VR U (.slice base sLen sCap) s') (hlen:∀w,(Builtin.lenOf x').run P w= .ok n w) (hn:gW U new new')
 (hc:(Builtin.firstCells size n x').run P w= .ok ⟨new'⟩ w) (hfit:sLen+n<=sCap) (hk:OQ size new base sLen sCap (sLen+n) Sz K=true):
 ∃U' v S' v' w',K v S'=true/\(Builtin.append_ ts ty #[s',x']).run P w= .ok v' w'/\VR U' v v'/\Rel P w0 U' S' w'/\Stp U w U' w':=by
 unfold OQ at hk;split at hk
 ·rename_i b o sp
  split at hk
  ·rename_i hsp hone
   rw [aT]at hk;rw [jT]at hone;have hone:=LX hn (List.all_eq_true.1 hone);rcases hs.iI with ⟨L,c',hL,rfl,hcap⟩ | ⟨⟨_,hsp1⟩,_⟩
   ·obtain⟨S',w',hk,r1,r2,hrun⟩:=yG h hk hL hn hone
    refine⟨U,_,S',_,w',hk,DN h0 h1 ht WW hi hlen (by rcases hcap with ⟨_,e⟩ | ⟨_,e,_⟩<;>omega) (by rw [hsize];exact hc) (fun a ha=>?_) (fun e=>by cases e),?_,r1,r2⟩
    ·injection ha with ha
     rw [<-ha,lN,hsize,Nat.add_assoc];exact hrun
    ·rcases hcap with ⟨rfl,rfl⟩ | ⟨rfl,e1,e2,e3,e4⟩
     ·exact .slice hL
     ·exact .mN hL e1 hfit e3 e4
   ·rw [hsp1]at hsp;cases hsp
  ·cases hk
 ·cases hk
theorem WX (h:Rel P w0 U Sz w){ts:Array TypeId}{ty t tx e:TypeId}{i:TypeInfo}{z:Value}{size:Nat} (h0:ts[0]? =some t) (h1:ts[1]? =some tx) (ht:P.underlying t=some (.slice e)) (WW:WQ (P.underlying tx)=true) (hi:P.info? e=some i) (hsize:i.size=size) (hz:i.zero=some z) (hzs:z.cells.size=size) (hpos:0<size)
 {base:Option Addr} {sLen sCap n:Nat} {s' _x x':Value} {new new':List Value} {K:VK} (hs:VR U (.slice base sLen sCap) s') (hlen:∀w,(Builtin.lenOf x').run P w= .ok n w) (hn:gW U new new') (hnl:new'.length=n*size)
 (hc:(Builtin.firstCells size n x').run P w= .ok ⟨new'⟩ w) (hcD:(Builtin.firstCells size n x').run P w.drew= .ok ⟨new'⟩ w.drew) (hfit:¬sLen+n<=sCap) (hbytes:(sLen+n)*(i.bytes+1)<=1099511627776)
 (hk:LO P e size new base sLen (sLen+n) Sz K=true):
 ∃U' v S' v' w',K v S'=true/\(Builtin.append_ ts ty #[s',x']).run P w= .ok v' w'/\VR U' v v'/\Rel P w0 U' S' w'/\Stp U w U' w':=by
 have hm:bL P e=some size:=by unfold bL;rw [hi];simp [hsize]
 have hzl:z.cells.toList.length=size:=by simpa using hzs
 subst hsize;unfold LO at hk;split at hk
 ·
   cases hs.of_flat rfl;split at hk
   ·simp only [EU,jB,fO,List.nil_append]at hk
    rw [Nat.zero_add]at hk hfit hbytes;have hrun:=DO (w:=w) (ty:=ty) (base:=none) (sLen:=0) (sCap:=sCap) (olds:=[]) h0 h1 ht WW hi hz hlen (by omega) (by rw [Nat.zero_add];exact hbytes) rfl hcD;rw [Nat.zero_add,List.nil_append]at hrun;obtain⟨U',r0,r1,r2⟩:=h.fresh hn hnl hm hzl hpos (grownCap_ge w n sCap e) (olds:=[]) (by simp);exact⟨U',_,_,_,_,hk,hrun,r0,r1,r2⟩
   ·cases hk
 ·
   rename_i b o;rcases hs.iI with ⟨L,c',hL,rfl,⟨_,rfl⟩ | ⟨hsp,_⟩⟩ | ⟨⟨_,hsp⟩,_⟩
   ·obtain⟨vs,e',ck,ho,hle,hk⟩:=vS hk
    obtain⟨old',hl',hol,hcell⟩:=h.yP ho hL hle;simp only [EU,jB,fO]at hk;have hrun:=DO (w:=w) (ty:=ty) (base:=some ⟨L.b,L.s+o,none⟩) (sLen:=sLen) (sCap:=c') (olds:=old') h0 h1 ht WW hi hz hlen (by omega) hbytes (run_loadCells (w:=w.drew) _ old' hol hcell) hcD;obtain⟨U',r0,r1,r2⟩:=h.fresh (hl'.append hn) (by rw [List.length_append,hol,hnl,<-Nat.add_mul]) hm hzl hpos (grownCap_ge w (sLen+n) c' e) (olds:=[]) (by simp);exact⟨U',_,_,_,_,hk,hrun,r0,r1,r2⟩
   ·cases hsp
   ·cases hsp
 ·
   rename_i b o;rcases hs.iI with ⟨L,c',hL,rfl,⟨hsp,_⟩ | ⟨_,hcc,hnc,hend,hmp⟩⟩ | ⟨⟨_,hsp⟩,_⟩
   ·cases hsp
   ·obtain⟨vs,e',ck,ho,hk⟩:=wS hk
    rw [jS]at hk;split at hk
    ·rename_i olds q hbeq hq
     have hvl:=Nat.eq_of_beq_eq_true hbeq;split at hk
     ·rename_i hqs hone hel
      have hqs:=Nat.eq_of_beq_eq_true hqs;subst hqs;have hel:=Nat.eq_of_beq_eq_true hel;rw [jT]at hone;have hone:=LX hn (List.all_eq_true.1 hone);obtain⟨vs2,e2,ck2,ho2,hle,hk⟩:=vS hk;rw [ho]at ho2;injection ho2 with ho2;injection ho2 with q1 q2 q3;subst q1 q2;obtain⟨old',hl',hol,hcell⟩:=h.yP ho hL hle;simp only [EU,jB,fO,eQ]at hk;obtain⟨cs,t',fz,hb,hcv,hbase,aCR,hLe,hLm,_⟩:=h.cells ho hL;have hLm:L.m=i.size:=by rw [hq]at hLm;injection hLm with hLm;exact hLm.symm
      have hst:=h.stale ho;have hob:(Sz.set b (.cells vs e' .stale)).obj b=some (.cells vs e' .stale):=by rw [wL,if_pos rfl]
      have hblt:=h.lt b _ ho
      have holds:∀q∈olds,q<Sz.n/\∀y,(Sz.set b (.cells vs e' .stale)).obj q=some y->Et U b vs q y:=by
       intro q hq;obtain⟨g1,g2⟩:=h.old b vs e' olds ho q hq;refine⟨g1,fun y hy=>?_⟩;rw [wL]at hy;split at hy
       ·rename_i eq
        rcases g2 _ (eq▸ho)with g3 | ⟨ws,u,g3,_⟩
        ·cases g3
        ·injection g3 with _ _ g3;cases g3
       ·exact g2 y hy
      by_cases hroom:sLen+n<=c'
      ·
        have aFj:L.s+o+sLen*i.size+new'.length<=cs.size:=by
         rw [hnl,Nat.add_assoc,<-Nat.add_mul,<-hLe];rw [hLm]at hend;have:=Nat.mul_le_mul_right i.size hroom;omega
        have hsc:=yX (P:=P) new' w L.b (L.s+o+sLen*i.size) 0 cs t' fz hb (by simpa using aFj) (fun x hx1 hx2=>aCR x (by simp at hx1 hx2;omega)) hone;simp only [Nat.add_zero]at hsc;have aG5:cs.toList.length=cs.size:=rfl
        have hget:∀j:Nat,(⟨splice (L.s+o+sLen*i.size) new' cs.toList⟩:Array Value)[j]? =if L.s+o+sLen*i.size<=j/\j<L.s+o+sLen*i.size+new'.length then new'[j-(L.s+o+sLen*i.size)]? else cs[j]? :=by
         intro j;have:=oA (L.s+o+sLen*i.size) new' cs.toList (by omega) j;simpa using this
        obtain⟨r1,r2⟩:=hst.aFi (Sz:=Sz.set b (.cells vs e' .stale)) hL hob (olds:=olds) holds
         (fun j y M hy hd hM hMb=>by
          rw [wL]at hy;split at hy
          ·rename_i eq;exact .inl eq
          ·rename_i eq
           rcases h.sep b j _ y L M (Ne.symm eq) ho hy rfl hd hL hM hMb.symm with ⟨g1,_⟩ | g1 | g1
           ·cases g1
           ·exact .inr g1
           ·cases y with
            | cells us u kk=>
             cases kk with
             | grown l=>
              obtain⟨_,g2⟩:=h.old j us u l hy b g1;rcases g2 _ ho with g3 | ⟨ws,u',g3,_⟩
              ·cases g3
              ·injection g3 with _ _ g3;cases g3
             | _=>cases g1
            | _=>cases g1)
         (cs':=⟨splice (L.s+o+sLen*i.size) new' cs.toList⟩) hb (by show(splice _ _ _).length=_;rw [wJ _ _ _ (by omega)];exact aG5)
         (fun j hj=>by rw [hget,if_neg (by omega)]) (e2:=e) (s2:=L.s+o) (new:=(vs.drop o).take (sLen*i.size)++new)
         (by
          have:=hl'.1;rw [List.length_append];omega)
         (fun j v hj=>by
          have aFk:((vs.drop o).take (sLen*i.size)).length=sLen*i.size:=by rw [hl'.1,hol]
          rw [List.getElem?_append]at hj;rw [hget];split at hj
          ·rename_i hlt
           rw [aFk]at hlt;rw [if_neg (by omega)];rw [List.getElem?_take,if_pos hlt,List.getElem?_drop]at hj;rw [Nat.add_assoc];exact hcv _ _ hj
          ·rename_i hlt
           rw [aFk]at hlt hj;have hjl:=(List.getElem?_eq_some_iff.1 hj).1;have:=hn.1;rw [if_pos (by omega),show L.s+o+j-(L.s+o+sLen*i.size)=j-sLen*i.size by omega];exact hn.get hj)
         aCR hLe (by rw [hLm];exact hm) hel hbase
        refine⟨_,_,_,_,_,hk,DN (w1:=w.putObj L.b (.cells ⟨splice (L.s+o+sLen*i.size) new' cs.toList⟩ t' fz)) h0 h1 ht WW hi hlen hroom hc (fun a ha=>?_) (fun e=>by cases e),?_,r1,?_⟩
        ·injection ha with ha
         rw [<-ha,lN];exact hsc
        ·have hL2:=Rn.iF U Sz.n ⟨L.b,L.s+o,L.e,L.m⟩
         exact VR.mN (o:=0) (n:=sLen+n) (c:=sLen+n) (c':=c') hL2 hroom (Nat.le_refl _) hend hmp
        ·exact r2
      ·
        have hrun:=DO (w:=w) (ty:=ty) (base:=some ⟨L.b,L.s+o,none⟩) (sLen:=sLen) (sCap:=c') (olds:=old') h0 h1 ht WW hi hz hlen (by omega) hbytes (run_loadCells (w:=w.drew) _ old' hol hcell) hcD
        obtain⟨U',r0,r1,r2⟩:=hst.fresh (Sz:=Sz.set b (.cells vs e' .stale)) (hl'.append hn) (by rw [List.length_append,hol,hnl,<-Nat.add_mul]) hm hzl hpos (grownCap_ge w (sLen+n) c' e) (olds:=b::olds)
         (fun q hq=>by
          rcases List.mem_cons.1 hq with rfl | hq
          ·refine⟨hblt,fun y hy=>?_⟩
           rw [hob]at hy;injection hy with hy;exact .inr ⟨vs,e',hy.symm⟩
          ·obtain⟨g1,g2⟩:=holds q hq
           refine⟨g1,fun y hy=>?_⟩;rcases g2 y hy with g3 | ⟨ws,u,g3,_⟩
           ·exact .inl g3
           ·exact .inr ⟨ws,u,g3⟩)
        exact⟨U',_,_,_,_,hk,hrun,r0,r1,r2⟩
     ·cases hk
    ·cases hk
   ·cases hsp
 ·cases hk
theorem WY (h:Rel P w0 U Sz w){ts:Array TypeId}{ty:TypeId}{s s' x x':Value}{K:VK} (hk:DJ P ts.toList s x Sz K=true) (hs:VR U s s') (hx:VR U x x'):
 ∃U' v S' v' w',K v S'=true/\(Builtin.append_ ts ty #[s',x']).run P w= .ok v' w'/\VR U' v v'/\Rel P w0 U' S' w'/\Stp U w U' w':=by
 unfold DJ at hk;split at hk
 ·rename_i sT xT rest hts
  have h0:ts[0]? =some sT:=by have:=congrArg (·[0]?) hts;simpa using this
  have h1:ts[1]? =some xT:=by have:=congrArg (·[1]?) hts;simpa using this
  split at hk
  ·rename_i elem he WW
   have ht:=dR he;split at hk
   ·rename_i info hi
    split at hk
    ·rename_i size z base sLen sCap hsize hz
     split at hk
     ·rename_i hzs
      have hzs:=Nat.eq_of_beq_eq_true hzs;obtain⟨n,hk,hlen,hf0⟩:=QE (P:=P) hk hx;split at hk
      ·
        split at hk
        ·rename_i hle
         have hle:=Nat.le_of_ble_eq_true hle
         have main:∀base' c',sLen<=c'->s'= .slice base' sLen c'->∃U' v S' v' w',K v S'=true/\(Builtin.append_ ts ty #[s',x']).run P w= .ok v' w'/\VR U' v v'/\Rel P w0 U' S' w'/\Stp U w U' w':=by
          intro base' c' hc' e;refine⟨U,_,Sz,_,w,hk,?_,hs,h,.refl U w⟩;rw [e];exact DN (w1:=w) h0 h1 ht WW hi hlen (by omega) (hf0 _ w) (fun a _=>by rfl) (fun _=>rfl)
         cases hs with
         | flat _=>exact main _ _ hle rfl
         | slice _=>exact main _ _ hle rfl
         | mN _ _ _ _ _=>exact main _ _ (by omega) rfl
         | uC=>exact main _ _ (by omega) rfl
         | uD _=>exact main _ _ (by omega) rfl
        ·cases hk
      ·obtain⟨new,new',hk,hn,hnl,hc,hcD⟩:=LW h hk hx
       rw [aT]at hk;split at hk
       ·rename_i hb
        have hb:=Nat.le_of_ble_eq_true hb;split at hk
        ·rename_i hfit
         exact Az (_x:=x) h h0 h1 ht WW hi hsize hs hlen hn hc (Nat.le_of_ble_eq_true hfit) hk
        ·rename_i hfit
         exact WX (_x:=x) h h0 h1 ht WW hi hsize hz hzs (Nat.succ_pos _) hs hlen hn hnl hc hcD (fun e=>by rw [Nat.ble_eq_true_of_le e]at hfit;cases hfit) hb hk
       ·cases hk
     ·cases hk
    ·cases hk
   ·cases hk
  ·cases hk
 ·cases hk
theorem Eu (h:Rel P w0 U Sz w){ts:Array TypeId}{ty:TypeId}{d d' x x':Value}{K:VK} (hk:YE P ts.toList d x Sz K=true) (hd:VR U d d') (hx:VR U x x'):
 ∃v S' v' w',K v S'=true/\(Builtin.copy_ ts ty #[d',x']).run P w= .ok v' w'/\VR U v v'/\Rel P w0 U S' w'/\Stp U w U w':=by
 unfold YE at hk;split at hk
 ·rename_i dT rest hts
  have h0:ts[0]? =some dT:=by have:=congrArg (·[0]?) hts;simpa using this
  split at hk
  ·rename_i elem he
   have ht:=dR he;split at hk
   ·rename_i size base dLen dCap hsize
    obtain⟨m,hk,hlen,hf0⟩:=QE (P:=P) hk hx;rw [aT]at hk;split at hk
    ·rename_i hmin
     refine⟨_,Sz,.int .i64 0,w,hk,?_,.flat rfl,h,.refl U w⟩
     have main:∀base' c',(Builtin.copy_ ts ty #[.slice base' dLen c',x']).run P w= .ok (.int .i64 0) w:=by
      intro base' c';cases base' with
      | none=>simp only [Builtin.copy_,List.getElem?_toArray,List.getElem?_cons_zero,List.getElem?_cons_succ,h0,Sem.run_bind,run_underlying ht,Result.andThen_ok,hlen,fE hsize,hmin,hf0,Sem.run_pure,goInt];rfl
      | some a=>simp only [Builtin.copy_,List.getElem?_toArray,List.getElem?_cons_zero,List.getElem?_cons_succ,h0,Sem.run_bind,run_underlying ht,Result.andThen_ok,hlen,fE hsize,hmin,hf0,Sem.run_pure,goInt];rfl
     cases hd with
     | flat _=>exact main _ _
     | slice _=>exact main _ _
     | mN _ _ _ _ _=>exact main _ _
     | uC=>exact main _ _
     | uD _=>exact main _ _
    ·rename_i n' hmin
     obtain⟨new,new',hk,hn,hnl,hc,hcD⟩:=LW h hk hx;split at hk
     ·rename_i i o sp
      split at hk
      ·rename_i hsp hone
       rw [jT]at hone;have hone:=LX hn (List.all_eq_true.1 hone);rcases hd.iI with ⟨L,c',hL,rfl,_⟩ | ⟨⟨_,hsp1⟩,_⟩
       ·obtain⟨S',w',hk,r1,r2,hrun⟩:=yG h hk hL hn hone
        refine⟨_,S',.int .i64 ((n'+1:Nat):Int),w',hk,?_,.flat rfl,r1,r2⟩;simp only [Builtin.copy_,List.getElem?_toArray,List.getElem?_cons_zero,List.getElem?_cons_succ,h0,Sem.run_bind,run_underlying ht,Result.andThen_ok,hlen,fE hsize,hmin,hc,hrun,Sem.run_pure,goInt]
       ·rw [hsp1]at hsp;cases hsp
      ·cases hk
     ·cases hk
   ·cases hk
  ·cases hk
 ·cases hk
end app
section ops
variable{P:Program}{w0:World}{U:Rn}{Sz:St}{w:World}
def Out (P:Program) (w0:World) (U:Rn) (w:World) (K:VK) (s:Sem Next):Prop:=
 ∃r U' v S' v' w',K v S'=true/\s.run P w= .ok r w'/\(r= .value v'\/(r= .skip/\v'=undef))/\VR U' v v'/\Rel P w0 U' S' w'/\Stp U w U' w'
theorem Out.here (h:Rel P w0 U Sz w){K:VK}{s:Sem Value}{v v':Value} (hk:K v Sz=true) (hv:VR U v v') (hr:s.run P w= .ok v' w):Out P w0 U w K (do pure (.value (<-s))):=
 ⟨_,U,v,Sz,v',w,hk,by rw [Sem.run_bind,hr];rfl,.inl rfl,hv,h,.refl U w⟩
theorem Out.new{K:VK}{s:Sem Value} (h:∃U' v S' v' w',K v S'=true/\s.run P w= .ok v' w'/\VR U' v v'/\Rel P w0 U' S' w'/\Stp U w U' w'):Out P w0 U w K (do pure (.value (<-s))):=by
 obtain⟨U',v,S',v',w',hk,hr,hv,h1,h2⟩:=h;exact⟨_,U',v,S',v',w',hk,by rw [Sem.run_bind,hr];rfl,.inl rfl,hv,h1,h2⟩
theorem Out.unit{K:VK}{s:Sem Unit} (h:∃S' w',K undef S'=true/\Rel P w0 U S' w'/\Stp U w U w'/\s.run P w= .ok () w'):Out P w0 U w K (do s;pure .skip):=by
 obtain⟨S',w',hk,h1,h2,hr⟩:=h;exact⟨_,U,undef,S',undef,w',hk,by rw [Sem.run_bind,hr];rfl,.inr ⟨rfl,rfl⟩,.tuple rfl (by simp),h1,h2⟩
theorem VR.nat{k:IntKind}{n:Nat}:VR U (.int k (.ofNat n)) (.int k (n:Int)):= .flat rfl
theorem VR.undef:VR U undef undef:= .tuple rfl (by simp)
theorem Jr{ts:Array TypeId}{ty t e:TypeId}{zero:List Value}{n c:Nat}{a:Addr}{w':World} (h0:ts[0]? =some t) (ht:P.underlying t=some (.slice e)) (hz:pJ P e=some zero) (hn:n≠0) (hne:zero≠[])
 (hs:(storeCells a (List.replicate n zero).flatten).run P w= .ok () w'):(Builtin.clear_ ts ty #[.slice (some a) n c]).run P w= .ok (.tuple #[]) w':=by
 obtain⟨zv,hz1,hz2⟩:=vR hz w
 have hzz:Builtin.zeroCells zv.cells n=⟨(List.replicate n zero).flatten⟩:=by
  have:=CA zero zv.cells hz2 n hne;have hl:zv.cells.size=zero.length:=by rw [<-hz2];rfl
  unfold Builtin.zeroCells;rw [show n*zv.cells.size=n*zero.length by rw [hl]];exact this
 cases n with
 | zero=>exact absurd rfl hn
 | succ n=>simp [Builtin.clear_,h0,run_underlying ht,hz1,hzz,hs]
theorem Qp{ts:Array TypeId}{ty:TypeId}{j:IntKind}{K:Value->Bool}:∀{l l':List Value} {x:Int},JH false l j x K=true->gW U l l'->∃y,K (.int j y)=true/\∀w,(Builtin.min_ ts ty ⟨.int j x::l'⟩).run P w= .ok (.int j y) w:=by
 intro l;induction l with
 | nil=>intro l' x hk hl;cases hl.iR;exact⟨x,hk,fun w=>by simp [Builtin.min_]⟩
 | cons v l ih=>
  intro l' x hk hl;obtain⟨v',t',rfl,hv,ht⟩:=hl.cI;cases v with
  | int k y=>
   cases hv.of_flat rfl;have hk:dN (Ef y x) (JH false l j y K) (JH false l j x K)=true:=hk;rw [GH]at hk;by_cases hlt:y<x
   ·rw [decide_eq_true hlt]at hk
    obtain⟨z,hz,hr⟩:=ih hk ht;refine⟨z,hz,fun w=>?_⟩;have:=hr w;simp only [Builtin.min_,List.foldlM_cons,Builtin.min2,if_pos hlt,Sem.run_bind,Sem.run_pure,Result.andThen_ok]at this ⊢;exact this
   ·rw [decide_eq_false hlt]at hk
    obtain⟨z,hz,hr⟩:=ih hk ht;refine⟨z,hz,fun w=>?_⟩;have:=hr w;simp only [Builtin.min_,List.foldlM_cons,Builtin.min2,if_neg hlt,Sem.run_bind,Sem.run_pure,Result.andThen_ok]at this ⊢;exact this
  | _=>cases hk
theorem Qq{ts:Array TypeId}{ty:TypeId}{j:IntKind}{K:Value->Bool}:∀{l l':List Value} {x:Int},JH true l j x K=true->gW U l l'->∃y,K (.int j y)=true/\∀w,(Builtin.max_ ts ty ⟨.int j x::l'⟩).run P w= .ok (.int j y) w:=by
 intro l;induction l with
 | nil=>intro l' x hk hl;cases hl.iR;exact⟨x,hk,fun w=>by simp [Builtin.max_]⟩
 | cons v l ih=>
  intro l' x hk hl;obtain⟨v',t',rfl,hv,ht⟩:=hl.cI;cases v with
  | int k y=>
   cases hv.of_flat rfl;have hk:dN (Ef x y) (JH true l j y K) (JH true l j x K)=true:=hk;rw [GH]at hk;by_cases hlt:x<y
   ·rw [decide_eq_true hlt]at hk
    obtain⟨z,hz,hr⟩:=ih hk ht;refine⟨z,hz,fun w=>?_⟩;have:=hr w;simp only [Builtin.max_,List.foldlM_cons,Builtin.max2,if_pos hlt,Sem.run_bind,Sem.run_pure,Result.andThen_ok]at this ⊢;exact this
   ·rw [decide_eq_false hlt]at hk
    obtain⟨z,hz,hr⟩:=ih hk ht;refine⟨z,hz,fun w=>?_⟩;have:=hr w;simp only [Builtin.max_,List.foldlM_cons,Builtin.max2,if_neg hlt,Sem.run_bind,Sem.run_pure,Result.andThen_ok]at this ⊢;exact this
  | _=>cases hk
theorem TR (h:Rel P w0 U Sz w){b:Builtin}{ts:Array TypeId}{ty:TypeId}{cs:Array Bool}{args args':List Value}{K:VK} (hk:lL P b ts.toList args Sz K=true) (ha:gW U args args'):
 Out P w0 U w K (builtin b ts ty cs ⟨args'⟩):=by
 unfold lL at hk;split at hk
 ·
   rename_i x;obtain⟨x',t',rfl,hx,ht'⟩:=ha.cI;cases ht'.iR;split at hk
   ·rename_i t rest hts
    have h0:ts[0]? =some t:=by have:=congrArg (·[0]?) hts;simpa using this
    split at hk
    ·rename_i base n c
     split at hk
     ·rename_i e he
      have hu:=dR he;refine Out.here h hk (v':= .int .i64 (n:Int)) .nat ?_;have main:∀b' c',(Builtin.len_ ts ty ⟨[.slice b' n c']⟩).run P w= .ok (.int .i64 (n:Int)) w:=fun b' c'=>by simp [Builtin.len_,h0,run_underlying hu,goInt]
      cases hx with
      | flat _=>exact main _ _
      | slice _=>exact main _ _
      | mN _ _ _ _ _=>exact main _ _
      | uC=>exact main _ _
      | uD _=>exact main _ _
     ·cases hk
    ·rename_i s
     cases hx.of_flat rfl;split at hk
     ·rename_i hu
      rw [jS]at hk;refine Out.here h hk (v':= .int .i64 (s.data.toList.length:Int)) .nat ?_;simp [Builtin.len_,h0,run_underlying hu,goInt]
     ·cases hk
    ·rename_i r
     split at hk
     ·rename_i q hm
      have hu:=sV hm;rcases yQ hk with ⟨e1,hk2⟩ | ⟨r,es,c,e1,ho,hk2⟩
      ·rw [e1]at hx
       cases hx.of_flat rfl;exact Out.here h hk2 (v':= .int .i64 0) (.flat rfl) (by simp [Builtin.len_,h0,run_underlying hu,goInt])
      ·rw [e1]at hx
       obtain⟨L,hL,rfl⟩:=hx.yF;obtain⟨es',_,hb,hes⟩:=h.map ho hL;simp only [jS]at hk2;refine Out.here h hk2 (v':= .int .i64 (es.length:Int)) .nat ?_;have hl:es'.size=es.length:=by rw [hes.1];rfl
       simp [Builtin.len_,h0,run_underlying hu,MapKept.run_getObj_map hb,goInt,hl]
     ·cases hk
    ·split at hk
     ·rename_i n e hu
      exact Out.here h hk (v':= .int .i64 (n:Int)) .nat (by simp [Builtin.len_,h0,run_underlying hu,goInt])
     ·cases hk
    ·cases hk
   ·cases hk
 ·obtain⟨s',t1,rfl,hs,ht1⟩:=ha.cI
  obtain⟨x',t2,rfl,hx,ht2⟩:=ht1.cI;cases ht2.iR;exact Out.new (WY h hk hs hx)
 ·obtain⟨s',t1,rfl,hs,ht1⟩:=ha.cI
  obtain⟨x',t2,rfl,hx,ht2⟩:=ht1.cI;cases ht2.iR;obtain⟨v,S',v',w',h1,h2,h3,h4,h5⟩:=Eu h hk hs hx;exact Out.new ⟨U,v,S',v',w',h1,h2,h3,h4,h5⟩
 ·obtain⟨s',t1,rfl,hs,ht1⟩:=ha.cI
  obtain⟨x',t2,rfl,hx,ht2⟩:=ht1.cI;cases ht2.iR;obtain⟨S',w',h1,h2,h3,h4⟩:=WU (t:=ty) h hk hs hx;exact Out.new ⟨U,_,S',_,w',h1,h4,.undef,h2,h3⟩
 ·rename_i j x l
  obtain⟨s',t1,rfl,hs,ht1⟩:=ha.cI;cases hs.of_flat rfl;obtain⟨y,hk,hrun⟩:=Qp hk ht1;exact Out.here h hk (.flat rfl) (hrun w)
 ·rename_i j x l
  obtain⟨s',t1,rfl,hs,ht1⟩:=ha.cI;cases hs.of_flat rfl;obtain⟨y,hk,hrun⟩:=Qq hk ht1;exact Out.here h hk (.flat rfl) (hrun w)
 ·
   rename_i x;obtain⟨x',t',rfl,hx,ht'⟩:=ha.cI;cases ht'.iR;split at hk
   ·rename_i t rest hts
    have h0:ts[0]? =some t:=by have:=congrArg (·[0]?) hts;simpa using this
    split at hk
    ·rename_i c he
     have hu:=dR he;cases hx.of_flat rfl;exact Out.here h hk (v':= .int .i64 (c:Int)) .nat (by simp [Builtin.cap_,h0,run_underlying hu,goInt])
    ·rename_i c he
     have hu:=dR he;rcases hx.iI with ⟨L,c1,hL,rfl,⟨_,rfl⟩ | ⟨hs,_⟩⟩ | ⟨⟨_,hs⟩,_⟩
     ·exact Out.here h hk (v':= .int .i64 (c1:Int)) .nat (by simp [Builtin.cap_,h0,run_underlying hu,goInt])
     ·cases hs
     ·cases hs
    ·cases hk
   ·cases hk
 ·
   rename_i base n c;obtain⟨s',t1,rfl,hs,ht1⟩:=ha.cI;cases ht1.iR;split at hk
   ·rename_i t rest hts
    have h0:ts[0]? =some t:=by have:=congrArg (·[0]?) hts;simpa using this
    split at hk
    ·rename_i elem he
     have hu:=dR he;split at hk
     ·rename_i size zero hsz hz
      split at hk
      ·cases hs.of_flat rfl
       exact Out.here h hk .undef (v':= .tuple #[]) (by simp [Builtin.clear_,h0,run_underlying hu])
      ·refine Out.here h hk .undef (v':= .tuple #[]) ?_
       have main:∀b' c',(Builtin.clear_ ts ty ⟨[.slice b' 0 c']⟩).run P w= .ok (.tuple #[]) w:=fun b' c'=>by cases b'<;>simp [Builtin.clear_,h0,run_underlying hu]
       cases hs with
       | flat _=>exact main _ _
       | slice _=>exact main _ _
       | mN _ _ _ _ _=>exact main _ _
       | uC=>exact main _ _
       | uD _=>exact main _ _
      ·rename_i i o sp n
       split at hk
       ·rename_i q hsp QC hzl
        rw [wK]at hk;rw [jT]at QC;have aFl:∀v∈zero,aY v=true:=List.all_eq_true.1 QC;have hzl:=Nat.eq_of_beq_eq_true hzl;have YF:gW U (List.replicate (n+1) zero).flatten (List.replicate (n+1) zero).flatten:=(gW.flat aFl).flatten _;rcases hs.iI with ⟨L,c',hL,rfl,_⟩ | ⟨⟨_,hsp1⟩,_⟩
        ·obtain⟨S',w',hk,r1,r2,hrun⟩:=yG h hk hL YF (fun v hv=>by
          simp only [List.mem_flatten,List.mem_replicate]at hv;obtain⟨l,⟨_,rfl⟩,hv⟩:=hv;have:=aFl v hv;cases v<;>first | rfl | (simp [aY]at this))
         exact Out.new ⟨U,_,S',_,w',hk,Jr h0 hu hz (by omega) (by intro e;rw [e]at hzl;simp at hzl) hrun,.undef,r1,r2⟩
        ·rw [hsp1]at hsp;cases hsp
       ·cases hk
     ·cases hk
    ·cases hk
   ·cases hk
 ·cases hk
end ops
end Go.Am
