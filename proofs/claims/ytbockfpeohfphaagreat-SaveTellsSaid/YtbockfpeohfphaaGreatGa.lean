/- AM, an abstract machine for the model's code: its state, its operations, its evaluator: plain definitions, no theorem about any program. -/
import Derived.OrdersIn
import Derived.RangeFuncIn
import Derived.RangeFuncLeaves
import Derived.Below
import GoSem.Dispatch
import Derived.RangeFuncRecord
import Derived.Laws.StructEq
import Derived.Laws.MakeOwn
import Derived.MapKept
import Derived.Laws.IdiomStrings
import Derived.Laws.BytesArg
import Derived.Maps.RangeRun
import Derived.Laws.AppendOwn
import Derived.TacticsIn
import Derived.Scope

set_option linter.unusedVariables false
namespace Go.Am
abbrev zI:Value:= .int .i64 (.ofNat 0)
abbrev zS:Value:= .string ⟨⟨[]⟩⟩
abbrev zL:Value:= .slice none 0 0
abbrev zF:Value:= .bool false
inductive Tr (α:Type)where
 | leaf
 | node (v:Option α) (l r:Tr α)
namespace Tr
variable{α:Type}
def get:Tr α->Nat->Option α
 | leaf,_=>none
 | node v l r,n=>if n=0 then v else if n%2=1 then l.get (n / 2)else r.get (n / 2-1)
def IC (x:α):Nat->Tr α->Nat->Tr α
 | 0,t,_=>t
 | f+1,leaf,n=>if n=0 then node (some x) leaf leaf else if n%2=1 then node none (IC x f leaf (n / 2)) leaf else node none leaf (IC x f leaf (n / 2-1))
 | f+1,node v l r,n=>if n=0 then node (some x) l r else if n%2=1 then node v (IC x f l (n / 2)) r else node v l (IC x f r (n / 2-1))
def put (t:Tr α) (n:Nat) (x:α):Tr α:=IC x (n+1) t n
end Tr
section comb
variable{α:Type}{β:Type}
noncomputable def pY (n:Nat) (z:β) (s:Nat->β):β:=Nat.rec (motive:=fun _=>β) z (fun p _=>s p) n
noncomputable def cR (b:Bool) (t f:β):β:=Bool.rec (motive:=fun _=>β) f t b
noncomputable def aEr (o:Option α) (z:β) (s:α->β):β:=Option.rec (motive:=fun _=>β) z s o
noncomputable def aCD (n:Int) (z:Nat->β) (s:Nat->β):β:=Int.rec (motive:=fun _=>β) z s n
noncomputable def XE (l:List α) (z:β) (s:α->List α->β):β:=List.rec (motive:=fun _=>β) z (fun a t _=>s a t) l
noncomputable def ID (z:β) (s:Nat->β->β) (n:Nat):β:=Nat.rec (motive:=fun _=>β) z s n
noncomputable def gZ (z:β) (s:α->List α->β->β) (l:List α):β:=List.rec (motive:=fun _=>β) z s l
noncomputable def aEs (z:β) (s:Option α->Tr α->Tr α->β->β->β) (t:Tr α):β:=Tr.rec (motive:=fun _=>β) z s t
noncomputable def tcase (t:Tr α) (z:β) (s:Option α->Tr α->Tr α->β):β:=Tr.rec (motive:=fun _=>β) z (fun v l r _ _=>s v l r) t
noncomputable def aEt (skip:β) (region:Array Oper->Bool->β) (seq:β->β->β) (cond:Operand->β->β->β) (block:Nat->β->β) (loop scope:β->β)
 (range:Operand->Array Tmp->Code->Code->β) (exit:Nat->β) (label ret bad:β) (c:Code):β:=
 Code.rec (motive:=fun _=>β) skip (fun _ ops draw=>region ops draw) (fun _ _ a b=>seq a b) (fun c _ _ a b=>cond c a b) (fun id _ h=>block id h) (fun _ h=>loop h)
  (fun f ps a b _ _=>range f ps a b) exit (fun _ h=>scope h) (fun _=>label) (fun _=>bad) ret (fun _=>bad) c
end comb
noncomputable def uI{α:Type} (t:Tr α) (n:Nat) (k:α->Bool):Bool:=
 aEs (β:=Nat->Bool) (fun _=>false) (fun v _ _ gl gr n=>pY n (aEr v false k) fun p=>pY (Nat.mod p 2) (gl (Nat.div p 2)) fun _=>gr (Nat.div p 2)) t n
noncomputable def MX{α:Type} (x:α) (f:Nat):Tr α->Nat->(Tr α->Bool)->Bool:=
 ID (β:=Tr α->Nat->(Tr α->Bool)->Bool) (fun t _ k=>k t)
  (fun _ ih t n k=>tcase t
   (pY n (k (.node (some x) .leaf .leaf)) fun p=>pY (Nat.mod p 2) (ih .leaf (Nat.div p 2) fun c=>k (.node none c .leaf)) fun _=>ih .leaf (Nat.div p 2) fun c=>k (.node none .leaf c))
   (fun v l r=>pY n (k (.node (some x) l r)) fun p=>pY (Nat.mod p 2) (ih l (Nat.div p 2) fun c=>k (.node v c r)) fun _=>ih r (Nat.div p 2) fun c=>k (.node v l c))) f
noncomputable def dW (n:Nat) (k:Nat->Bool):Bool:=pY n (k 0) fun p=>k (Nat.succ p)
noncomputable def vZ (n:Int) (k:Int->Bool):Bool:=aCD n (fun m=>dW m fun m=>k (.ofNat m)) (fun m=>dW m fun m=>k (.negSucc m))
noncomputable def MY (b:Bool) (k:Bool->Bool):Bool:=cR b (k true) (k false)
noncomputable def xJ{α:Type} (l:List α) (i:Nat) (k:α->Bool):Bool:=
 gZ (β:=Nat->Bool) (fun _=>false) (fun a _ ih i=>pY i (k a) fun p=>ih p) l i
noncomputable def aA8{α:Type} (l:List α) (k:List α->Bool):Bool:=
 gZ (β:=(List α->Bool)->Bool) (fun k=>k []) (fun a _ ih k=>ih fun t=>k (a::t)) l k
noncomputable def AL{α:Type} (l m:List α) (k:List α->Bool):Bool:=
 gZ (β:=(List α->Bool)->Bool) (fun k=>k m) (fun a _ ih k=>ih fun t=>k (a::t)) l k
noncomputable def uJ{α:Type} (n:Nat) (l:List α) (k:List α->Bool):Bool:=
 ID (β:=List α->(List α->Bool)->Bool) (fun _ k=>k []) (fun _ ih l k=>XE l false fun a t=>ih t fun t'=>k (a::t')) n l k
noncomputable def oE{α:Type} (n:Nat) (l:List α) (k:List α->Bool):Bool:=
 ID (β:=List α->Bool) (fun l=>k l) (fun _ ih l=>XE l false fun _ t=>ih t) n l
noncomputable def Ho{α:Type} (new:List α) (l:List α) (k:List α->Bool):Bool:=
 gZ (β:=List α->(List α->Bool)->Bool) (fun l k=>k l) (fun a _ ih l k=>XE l false fun _ t=>ih t fun t'=>k (a::t')) new l k
noncomputable def iA{α:Type} (off:Nat) (new l:List α) (k:List α->Bool):Bool:=
 ID (β:=List α->(List α->Bool)->Bool) (fun l k=>Ho new l k) (fun _ ih l k=>XE l false fun a t=>ih t fun t'=>k (a::t')) off l k
noncomputable def mJ{α:Type} (l:List α) (k:Nat->Bool):Bool:=
 gZ (β:=Nat->Bool) (fun n=>k n) (fun _ _ ih n=>dW (Nat.succ n) ih) l 0
noncomputable def XF{α:Type} (z:List α) (n:Nat) (k:List α->Bool):Bool:=
 ID (β:=List α->Bool) (fun acc=>k acc) (fun _ ih acc=>AL z acc ih) n []
inductive CK where
 | exact
 | grown (olds:List Nat)
 | stale
 | ro
 | rs
structure Tm where
 t:Tr Value
 n:Nat
noncomputable def VC (T:Tm) (i:Nat) (k:Value->Bool):Bool:=uI T.t i k
noncomputable def uK (v:Value) (T:Tm) (i:Nat) (k:Tm->Bool):Bool:=
 match Nat.blt i T.n with
 | true=>MX v (Nat.succ i) T.t i fun t=>k ⟨t,T.n⟩
 | false=>false
noncomputable def Pw (n:Nat) (args:List Value) (k:Tm->Bool):Bool:=
 gZ (β:=Nat->Tm->Bool) (fun _ T=>k T) (fun a _ ih i T=>uK a T i fun T=>dW (Nat.succ i) fun i=>ih i T) args 0 ⟨.leaf,n⟩
inductive fS where
 | dead
 | cells (vs:List Value) (elem:TypeId) (k:CK)
 | map (es:List MapEntry) (clock:Nat)
 | loop (tmps:Tm) (params:List Tmp) (assign body:Code) (state:LoopState) (pending:Option Code)
 | defers
 | iter (m:Option Nat) (since:Nat) (seen:List Nat) (last:Nat)
structure St where
 h:Tr fS
 n:Nat
inductive OC where
 | normal
 | exit (id:Nat)
 | ret
structure bG where
 tmps:Tm
 marks:List Nat
 g:Nat
abbrev VK:=Value->St->Bool
abbrev TK:=FuncId->List Value->St->VK->Bool
def cD:Value->Bool
 | .bool _ | .int .. | .string _ | .nilFunc | .nilIface | .pointer none | .slice none _ _ | .map none=>true
 | _=>false
def oneCell:Value->Bool
 | .agg _ | .tuple _=>false
 | _=>true
noncomputable def allB{α:Type} (f:α->Bool) (l:List α):Bool:=gZ (β:=Bool) true (fun a _ ih=>cR (f a) ih false) l
def xK:Value->Bool
 | .agg cs=>cs.toList.all cD
 | v=>cD v
noncomputable def rK (A:bG) (x:Operand) (k:Value->Bool):Bool:=
 match x with
 | .tmp t=>VC A.tmps t k
 | .const v=>match xK v with | true=>k v | false=>false
 | .global g=>match Nat.blt g A.g with | true=>k (.pointer (some ⟨g,0,none⟩)) | false=>false
 | .func f=>k (.func (.func f) #[] #[])
noncomputable def As (A:bG) (xs:List Operand) (k:List Value->Bool):Bool:=
 gZ (β:=(List Value->Bool)->Bool) (fun k=>k []) (fun x _ ih k=>rK A x fun v=>ih fun vs=>k (v::vs)) xs k
noncomputable def lS (A:bG) (d:Option Tmp) (v:Value) (k:bG->Bool):Bool:=
 match d with
 | some d=>uK v A.tmps d fun ts=>k ⟨ts,A.marks,A.g⟩
 | none=>k A
noncomputable def qZ (Sz:St) (o:fS) (k:Nat->St->Bool):Bool:=
 MX o (Nat.succ Sz.n) Sz.h Sz.n fun h=>dW (Nat.succ Sz.n) fun n=>k Sz.n ⟨h,n⟩
noncomputable def uG (Sz:St) (i:Nat) (o:fS) (k:St->Bool):Bool:=MX o (Nat.succ i) Sz.h i fun h=>k ⟨h,Sz.n⟩
noncomputable def lD (Sz:St) (i:Nat) (k:List Value->TypeId->CK->Bool):Bool:=
 uI Sz.h i fun o=>match o with | .cells vs e c=>k vs e c | _=>false
noncomputable def DO (Sz:St) (i off n:Nat) (k:List Value->Bool):Bool:=lD Sz i fun vs _ _=>oE off vs fun l=>uJ n l k
noncomputable def Hp (l:List Nat) (h:Tr fS) (k:Tr fS->Bool):Bool:=
 gZ (β:=Tr fS->(Tr fS->Bool)->Bool) (fun h k=>k h) (fun i _ ih h k=>MX .dead (Nat.succ i) h i fun h=>ih h k) l h k
def RK:Int->Int->Bool
 | .ofNat a,.ofNat b=>Nat.beq a b
 | .negSucc a,.negSucc b=>Nat.beq a b
 | _,_=>false
def oM:IntKind->IntKind->Bool
 | .i8,.i8 | .i16,.i16 | .i32,.i32 | .i64,.i64 | .u8,.u8 | .u16,.u16 | .u32,.u32 | .u64,.u64=>true
 | _,_=>false
noncomputable def asIs (new:List Value):List Value->Bool:=
 gZ (β:=List Value->Bool) (fun _=>true) (fun a _ ih l=>XE l false fun b t=>match a,b with
  | .int j x,.int k y=>match oM j k with
   | true=>match RK x y with | true=>ih t | false=>false
   | false=>false
  | _,_=>false) new
noncomputable def eX (Sz:St) (i off:Nat) (new:List Value) (k:St->Bool):Bool:=
 lD Sz i fun vs e c=>
  match c with
  | .exact=>iA off new vs fun vs=>uG Sz i (.cells vs e .exact) k
  | .grown olds=>oE off vs fun l=>match asIs new l with
   | true=>k Sz
   | false=>iA off new vs fun vs=>Hp olds Sz.h fun h=>MX (.cells vs e (.grown [])) (Nat.succ i) h i fun h=>k ⟨h,Sz.n⟩
  | .rs=>oE off vs fun l=>match asIs new l with | true=>k Sz | false=>false
  | _=>false
def Mg:Int->Int->Bool
 | .ofNat a,.ofNat b=>Nat.blt a b
 | .ofNat _,.negSucc _=>false
 | .negSucc _,.ofNat _=>true
 | .negSucc a,.negSucc b=>Nat.blt b a
def xL (k:IntKind) (n:Int):Int:=
 match k,n with
 | .i64,.ofNat m=>match Nat.blt m 9223372036854775808 with | true=> .ofNat m | false=>k.wrap n
 | .i64,.negSucc m=>match Nat.blt m 9223372036854775808 with | true=> .negSucc m | false=>k.wrap n
 | .u64,.ofNat m=>match Nat.blt m 18446744073709551616 with | true=> .ofNat m | false=>k.wrap n
 | .u8,.ofNat m=>match Nat.blt m 256 with | true=> .ofNat m | false=>k.wrap n
 | k,n=>k.wrap n
noncomputable def tD (k:IntKind) (n:Int) (K:Value->Bool):Bool:=vZ (xL k n) fun n=>K (.int k n)
noncomputable def nG (b:Bool) (K:Value->Bool):Bool:=MY b fun b=>K (.bool b)
noncomputable def sS (op:BinOp) (k:IntKind) (x y:Int) (K:Value->Bool):Bool:=
 match op with
 | .add=>tD k (Int.add x y) K
 | .sub=>tD k (Int.sub x y) K
 | .mul=>tD k (Int.mul x y) K
 | .quo=>match RK y 0 with | true=>false | false=>tD k (Int.tdiv x y) K
 | .rem=>match RK y 0 with | true=>false | false=>vZ (Int.tmod x y) fun n=>K (.int k n)
 | .and=>vZ (k.wrap (BitVec.ofInt k.bits x &&& BitVec.ofInt k.bits y).toNat) fun n=>K (.int k n)
 | .or=>vZ (k.wrap (BitVec.ofInt k.bits x ||| BitVec.ofInt k.bits y).toNat) fun n=>K (.int k n)
 | .xor=>vZ (k.wrap (BitVec.ofInt k.bits x ^^^ BitVec.ofInt k.bits y).toNat) fun n=>K (.int k n)
 | .andNot=>vZ (k.wrap (BitVec.ofInt k.bits x &&& ~~~ BitVec.ofInt k.bits y).toNat) fun n=>K (.int k n)
 | .eql=>nG (RK x y) K
 | .neq=>nG (!RK x y) K
 | .lss=>nG (Mg x y) K
 | .leq=>nG (!Mg y x) K
 | .gtr=>nG (Mg y x) K
 | .geq=>nG (!Mg x y) K
 | _=>false
noncomputable def Mh (op:BinOp) (k:IntKind) (x y:Int) (K:Value->Bool):Bool:=
 match Mg y 0 with
 | true=>false
 | false=>
  match op with
  | .shl=>tD k (x*2 ^ (min y.toNat k.bits)) K
  | .shr=>vZ (x.fdiv (2 ^ (min y.toNat k.bits))) fun n=>K (.int k n)
  | _=>false
noncomputable def VD (a b:List UInt8):Bool:=
 gZ (β:=List UInt8->Bool) (fun b=>match b with | []=>true | _=>false)
  (fun x _ ih b=>match b with | []=>false | y::b=>match Nat.beq x.toNat y.toNat with | true=>ih b | false=>false) a b
noncomputable def Sk (a b:List UInt8):Bool:=
 gZ (β:=List UInt8->Bool) (fun b=>match b with | []=>false | _=>true)
  (fun x _ ih b=>match b with | []=>false | y::b=>match Nat.blt x.toNat y.toNat with | true=>true | false=>match Nat.beq x.toNat y.toNat with | true=>ih b | false=>false) a b
noncomputable def Dx (op:BinOp) (a b:ByteArray) (K:Value->Bool):Bool:=
 match op with
 | .add=>mJ a.data.toList fun n=>mJ b.data.toList fun m=>match Nat.blt (n+m) 9223372036854775808 with
  | true=>AL a.data.toList b.data.toList fun l=>K (.string ⟨⟨l⟩⟩)
  | false=>false
 | .eql=>nG (VD a.data.toList b.data.toList) K
 | .neq=>nG (!VD a.data.toList b.data.toList) K
 | .lss=>nG (Sk a.data.toList b.data.toList) K
 | .leq=>nG (Sk a.data.toList b.data.toList || VD a.data.toList b.data.toList) K
 | .gtr=>nG (!(Sk a.data.toList b.data.toList || VD a.data.toList b.data.toList)) K
 | .geq=>nG (!Sk a.data.toList b.data.toList) K
 | _=>false
section ops
variable (P:Program)
def yN (t:TypeId):Option Bool:=(P.underlying t).map fun | .struct _ | .array _ _=>true | _=>false
def cN (t:TypeId):Option Nat:=(P.info? t).map (·.size)
def BX (t:TypeId):Option (List Value):=((P.info? t).bind (·.zero)).map (·.cells.toList)
noncomputable def MA (t:TypeId) (a:Value) (Sz:St) (K:VK):Bool:=
 match a with
 | .pointer (some ⟨i,o,none⟩)=>
  match yN P t with
  | some false=>lD Sz i fun vs _ _=>xJ vs o fun v=>K v Sz
  | some true=>match cN P t with
   | some n=>DO Sz i o n fun l=>K (.agg ⟨l⟩) Sz
   | none=>false
  | none=>false
 | _=>false
noncomputable def iB (v:Value) (k:List Value->Bool):Bool:=
 match v with
 | .agg cs=>match allB oneCell cs.toList with | true=>k cs.toList | false=>false
 | .tuple _=>false
 | v=>k [v]
noncomputable def RL (t:TypeId) (a x:Value) (Sz:St) (k:St->Bool):Bool:=
 match a with
 | .pointer (some ⟨i,o,none⟩)=>
  match cN P t with
  | some n=>iB x fun cs=>mJ cs fun m=>match Nat.beq m n with
   | true=>eX Sz i o cs k
   | false=>false
  | none=>false
 | _=>false
noncomputable def Mi (d:Nat) (x:Option Value) (k:Nat->Bool):Bool:=
 match x with
 | none=>k d
 | some (.int _ (.ofNat n))=>k n
 | _=>false
noncomputable def BY (len cap:Nat) (lo hi mx:Option Value) (k:Nat->Nat->Nat->Bool):Bool:=
 Mi cap mx fun m=>Mi len hi fun h=>Mi 0 lo fun l=>
  match Nat.ble l h,Nat.ble h m,Nat.ble m cap with
  | true,true,true=>k l h m
  | _,_,_=>false
def isSlice (t:TypeId):Option TypeId:=match P.underlying t with | some (.slice e)=>some e | _=>none
noncomputable def wA (t:TypeId) (x:Value) (lo hi mx:Option Value) (Sz:St) (K:Value->Bool):Bool:=
 match x with
 | .string s=>
  match P.underlying t,mx with
  | some .string,none=>mJ s.data.toList fun n=>BY n n lo hi none fun l h _=>uJ h s.data.toList fun a=>oE l a fun b=>K (.string ⟨⟨b⟩⟩)
  | _,_=>false
 | .slice none len cap=>
  match isSlice P t with
  | some elem=>match cN P elem with
   | some _=>BY len cap lo hi mx fun l h m=>dW (h-l) fun n=>dW (m-l) fun c=>K (.slice none n c)
   | none=>false
  | none=>false
 | .slice (some ⟨i,o,sp⟩) len cap=>
  match isSlice P t with
  | some elem=>match cN P elem with
   | some size=>BY len cap lo hi mx fun l h m=>dW (h-l) fun n=>dW (m-l) fun c=>dW (o+l*size) fun o'=>
    match sp,mx with
    | none,_=>match Nat.beq m l with | true=>K (.slice (some ⟨i,o,none⟩) n c) | false=>K (.slice (some ⟨i,o',none⟩) n c)
    | some 0,some _=>match Nat.beq m l with | true=>false | false=>K (.slice (some ⟨i,o',none⟩) n c)
    | some 0,none=>match Nat.beq m l with
     | true=>K (.slice (some ⟨i,0,some 1⟩) 0 0)
     | false=>lD Sz i fun _ e ck=>match ck,cN P e with
      | .exact,_=>false
      | _,some q=>match Nat.beq q size with | true=>K (.slice (some ⟨i,o',some 0⟩) n c) | false=>false
      | _,none=>false
    | some _,_=>K (.slice (some ⟨i,0,some 1⟩) 0 0)
   | none=>false
  | none=>false
 | .pointer (some ⟨i,o,none⟩)=>
  match P.underlying t with
  | some (.array len elem)=>match cN P elem with
   | some size=>BY len len lo hi mx fun l h m=>dW (h-l) fun n=>dW (m-l) fun c=>dW (o+l*size) fun o'=>
    match Nat.beq m l with | true=>K (.slice (some ⟨i,o,none⟩) n c) | false=>K (.slice (some ⟨i,o',none⟩) n c)
   | none=>false
  | _=>false
 | _=>false
noncomputable def wB (t:TypeId) (x ix:Value) (K:Value->Bool):Bool:=
 match ix with
 | .int _ (.ofNat i)=>
  match x with
  | .slice (some ⟨b,o,sp⟩) len _=>
   match sp with
   | some (_+1)=>false
   | _=>match isSlice P t with
    | some elem=>match cN P elem,Nat.blt i len with
     | some size,true=>dW (o+i*size) fun o=>K (.pointer (some ⟨b,o,none⟩))
     | _,_=>false
    | none=>false
  | .pointer (some ⟨b,o,none⟩)=>
   match P.underlying t with
   | some (.array len elem)=>match cN P elem,Nat.blt i len with
    | some size,true=>dW (o+i*size) fun o=>K (.pointer (some ⟨b,o,none⟩))
    | _,_=>false
   | _=>false
  | _=>false
 | _=>false
def zQ (s:TypeId) (f:Nat):Option Field:=match P.underlying s with | some (.struct fs)=>fs[f]? | _=>none
noncomputable def wC (s:TypeId) (x:Value) (f:Nat) (K:Value->Bool):Bool:=
 match x with
 | .pointer (some ⟨b,o,none⟩)=>
  match zQ P s f with
  | some fd=>match cN P fd.type with
   | some (_+1)=>dW (o+fd.offset) fun o=>K (.pointer (some ⟨b,o,none⟩))
   | _=>false
  | none=>false
 | _=>false
noncomputable def Cg (t:TypeId) (cs:List Value) (off:Nat) (K:Value->Bool):Bool:=
 match yN P t with
 | some false=>xJ cs off K
 | some true=>match cN P t with
  | some n=>oE off cs fun l=>uJ n l fun l=>K (.agg ⟨l⟩)
  | none=>false
 | none=>false
noncomputable def IE (t:TypeId) (x:Value) (f:Nat) (K:Value->Bool):Bool:=
 match x with
 | .agg cs=>match zQ P t f with
  | some fd=>Cg P fd.type cs.toList fd.offset K
  | none=>false
 | _=>false
noncomputable def RM (t:TypeId) (x ix:Value) (K:Value->Bool):Bool:=
 match ix with
 | .int _ (.ofNat i)=>
  match x with
  | .agg cs=>match P.underlying t with
   | some (.array len elem)=>match cN P elem,Nat.blt i len with
    | some size,true=>Cg P elem cs.toList (i*size) K
    | _,_=>false
   | _=>false
  | .string s=>match P.underlying t with
   | some .string=>xJ s.data.toList i fun b=>dW b.toNat fun n=>K (.int .u8 (.ofNat n))
   | _=>false
  | _=>false
 | _=>false
noncomputable def MB (place:Nat->Option (Nat×Nat)) (parts:List (Nat×Value)) (cells:List Value) (k:List Value->Bool):Bool:=
 gZ (β:=List Value->Bool) (fun cs=>k cs)
  (fun p _ ih cs=>match place p.1 with
   | some (off,size)=>iB p.2 fun new=>mJ new fun m=>match Nat.beq m size with
    | true=>iA off new cs ih
    | false=>false
   | none=>false) parts cells
noncomputable def yO (A:bG) (parts:List (Nat×Operand)) (k:List (Nat×Value)->Bool):Bool:=
 gZ (β:=(List (Nat×Value)->Bool)->Bool) (fun k=>k []) (fun p _ ih k=>rK A p.2 fun v=>ih fun l=>k ((p.1,v)::l)) parts k
def placesOf (fields:List Field):Option (List (Nat×Nat)):=fields.mapM fun f=>(cN P f.type).map fun s=>(f.offset,s)
noncomputable def XG (A:bG) (t:TypeId) (parts:List (Nat×Operand)) (K:Value->Bool):Bool:=
 match BX P t,P.underlying t with
 | some zero,some (.struct fields)=>match placesOf P fields.toList with
  | some pl=>match allB cD zero with
   | true=>yO A parts fun ps=>MB (pl[·]?) ps zero fun cs=>K (.agg ⟨cs⟩)
   | false=>false
  | none=>false
 | some zero,some (.array _ elem)=>match cN P elem with
  | some size=>match allB cD zero with
   | true=>yO A parts fun ps=>MB (fun i=>some (i*size,size)) ps zero fun cs=>K (.agg ⟨cs⟩)
   | false=>false
  | none=>false
 | _,_=>false
noncomputable def tQ (A:bG) (t:TypeId) (len:Nat) (parts:List (Nat×Operand)) (Sz:St) (K:VK):Bool:=
 match isSlice P t with
 | some elem=>match cN P elem,BX P elem with
  | some (size+1),some zero=>match Nat.ble (len*(size+1)) 16777216,Nat.beq zero.length (size+1)with
   | true,true=>match allB cD zero with
    | true=>XF zero len fun cs=>yO A parts fun ps=>MB (fun i=>some (i*(size+1),size+1)) ps cs fun cs=>
     qZ Sz (.cells cs elem .exact) fun i Sz=>K (.slice (some ⟨i,0,none⟩) len len) Sz
    | false=>false
   | _,_=>false
  | _,_=>false
 | none=>false
noncomputable def MZ (t:TypeId) (Sz:St) (K:VK):Bool:=
 match BX P t with
 | some zero=>match allB cD zero with
  | true=>aA8 zero fun zero=>qZ Sz (.cells zero t .exact) fun i Sz=>K (.pointer (some ⟨i,0,none⟩)) Sz
  | false=>false
 | none=>false
noncomputable def iP (t:TypeId) (v:Value) (Sz:St) (K:VK):Bool:=
 iB v fun cs=>qZ Sz (.cells cs t .exact) fun i Sz=>K (.pointer (some ⟨i,0,none⟩)) Sz
noncomputable def qI (t:TypeId) (len cap:Value) (Sz:St) (K:VK):Bool:=
 match len,cap with
 | .int _ (.ofNat l),.int _ (.ofNat c)=>
  match isSlice P t with
  | some elem=>match P.info? elem,BX P elem with
   | some info,some zero=>match Nat.ble l c,Nat.ble (info.bytes*c) 1099511627776,Nat.ble c 1099511627776,Nat.beq zero.length info.size,info.size with
    | true,true,true,true,_+1=>match allB cD zero with
     | true=>match Nat.ble c 65536 with
      | true=>XF zero c fun cs=>qZ Sz (.cells cs elem .exact) fun i Sz=>K (.slice (some ⟨i,0,none⟩) l c) Sz
      | false=>qZ Sz .dead fun i Sz=>K (.slice (some ⟨i,0,none⟩) l c) Sz
     | false=>false
    | _,_,_,_,_=>false
   | _,_=>false
  | none=>false
 | _,_=>false
def IF (t:TypeId):Bool:=match P.underlying t with | some (.int _) | some .string | some .bool=>true | _=>false
noncomputable def KW (t:TypeId) (a b:Value) (k:Bool->Bool):Bool:=
 match P.underlying t with
 | some (.int _)=>match a,b with
  | .int j x,.int l y=>match oM j l with | true=>MY (RK x y) k | false=>false
  | _,_=>false
 | some .string=>match a,b with
  | .string x,.string y=>MY (VD x.data.toList y.data.toList) k
  | _,_=>false
 | some .bool=>match a,b with
  | .bool x,.bool y=>MY (x==y) k
  | _,_=>false
 | _=>false
noncomputable def uL (fs:List Field) (a b:List Value) (k:Bool->Bool):Bool:=
 gZ (β:=List Value->List Value->Bool) (fun _ _=>k true)
  (fun f _ ih a b=>XE a false fun x a=>XE b false fun y b=>KW P f.type x y fun e=>match e with | true=>ih a b | false=>k false) fs a b
def xM:Nat->List Field->Bool
 | _,[]=>true
 | i,f::fs=>f.name != "_" &&f.offset==i&&IF P f.type&&xM (i+1) fs
def XH (t:TypeId):Option (List Field):=
 match P.underlying t with
 | some (.struct fs)=>if xM P 0 fs.toList&& !P.stoodInHeld t&& !P.eqGuardType P.depth t then some fs.toList else none
 | _=>none
noncomputable def DB (t:TypeId) (a b:Value) (k:Bool->Bool):Bool:=
 match a,b with
 | .agg xs,.agg ys=>match XH P t with
  | some fs=>uL P fs xs.toList ys.toList k
  | none=>false
 | .pointer (some _),.pointer none | .pointer none,.pointer (some _)=>match P.underlying t with | some (.pointer _)=>k false | _=>false
 | .pointer none,.pointer none=>match P.underlying t with | some (.pointer _)=>k true | _=>false
 | .slice (some _) _ _,.slice none _ _ | .slice none _ _,.slice (some _) _ _=>match P.underlying t with | some (.slice _)=>k false | _=>false
 | .slice none _ _,.slice none _ _=>match P.underlying t with | some (.slice _)=>k true | _=>false
 | .map (some _),.map none | .map none,.map (some _)=>match P.underlying t with | some (.map _ _)=>k false | _=>false
 | .map none,.map none=>match P.underlying t with | some (.map _ _)=>k true | _=>false
 | .func _ _ _,.nilFunc | .nilFunc,.func _ _ _=>match P.underlying t with | some (.func _ _ _)=>k false | _=>false
 | .nilFunc,.nilFunc=>match P.underlying t with | some (.func _ _ _)=>k true | _=>false
 | .iface _ _,.nilIface | .nilIface,.iface _ _=>match P.underlying t with | some (.interface _)=>k false | _=>false
 | .bool x,.bool y=>match P.underlying t with | some .bool=>MY (x==y) k | _=>false
 | _,_=>false
noncomputable def Hq (op:BinOp) (t:TypeId) (a b:Value) (K:Value->Bool):Bool:=
 match a,b with
 | .int k x,.int k' y=>match op with
  | .shl | .shr=>Mh op k x y K
  | _=>match oM k k' with | true=>sS op k x y K | false=>false
 | .string x,.string y=>Dx op x y K
 | a,b=>match op with
  | .eql=>DB P t a b fun e=>nG e K
  | .neq=>DB P t a b fun e=>nG (!e) K
  | _=>false
noncomputable def Ar (op:UnOp) (a:Value) (K:Value->Bool):Bool:=
 match op,a with
 | .neg,.int k n=>tD k (Int.sub 0 n) K
 | .xor,.int k n=>vZ (k.wrap (BitVec.ofInt k.bits (if k.signed then-1 else k.max) ^^^ BitVec.ofInt k.bits n).toNat) fun n=>K (.int k n)
 | .not,.bool b=>nG (!b) K
 | _,_=>false
noncomputable def Wt (l:List UInt8) (k:List Value->Bool):Bool:=
 gZ (β:=(List Value->Bool)->Bool) (fun k=>k []) (fun b _ ih k=>dW b.toNat fun n=>ih fun t=>k (.int .u8 (.ofNat n)::t)) l k
noncomputable def XI (l:List Value) (k:List UInt8->Bool):Bool:=
 gZ (β:=(List UInt8->Bool)->Bool) (fun k=>k []) (fun v _ ih k=>match v with | .int .u8 (.ofNat n)=>ih fun t=>k (UInt8.ofNat n::t) | _=>false) l k
noncomputable def DP (src dst:TypeId) (x:Value) (Sz:St) (K:VK):Bool:=
 match x with
 | .int _ n=>match P.underlying src,P.underlying dst with
  | some _,some (.int k)=>tD k n fun v=>K v Sz
  | _,_=>false
 | .string s=>match P.underlying src,P.underlying dst with
  | some .string,some .string=>K (.string s) Sz
  | some .string,some (.slice e)=>match P.underlying e,cN P e with
   | some (.int .u8),some 1=>Wt s.data.toList fun l=>mJ l fun n=>qZ Sz (.cells l e (.grown [])) fun i Sz=>K (.slice (some ⟨i,0,some 0⟩) n n) Sz
   | _,_=>false
  | _,_=>false
 | .slice none _ _=>match P.underlying src,P.underlying dst with
  | some (.slice e),some .string=>match P.underlying e with
   | some (.int .u8)=>K (.string ⟨⟨[]⟩⟩) Sz
   | _=>false
  | _,_=>false
 | .slice (some ⟨i,o,sp⟩) len _=>match P.underlying src,P.underlying dst,sp with
  | _,_,some (_+1)=>false
  | some (.slice e),some .string,_=>match P.underlying e with
   | some (.int .u8)=>DO Sz i o len fun l=>XI l fun l=>K (.string ⟨⟨l⟩⟩) Sz
   | _=>false
  | _,_,_=>false
 | _=>false
noncomputable def aCR (Sz:St) (m:Value) (k:Option Nat->List MapEntry->Nat->Bool):Bool:=
 match m with
 | .map none=>k none [] 0
 | .map (some r)=>uI Sz.h r fun o=>match o with | .map es c=>k (some r) es c | _=>false
 | _=>false
def Dy (t:TypeId):Option (TypeId×TypeId):=match P.underlying t with | some (.map k e)=>some (k,e) | _=>none
noncomputable def Px (t:TypeId) (x ix:Value) (ok:Bool) (Sz:St) (K:VK):Bool:=let _:=P;false
noncomputable def XJ (t:TypeId) (m key x:Value) (Sz:St) (k:St->Bool):Bool:=let _:=P;false
noncomputable def Ch (t:TypeId) (m key:Value) (Sz:St) (K:VK):Bool:=let _:=P;false
noncomputable def TL (m s x:Value) (Sz:St) (k:St->Bool):Bool:=false
noncomputable def Py (argTypes:List TypeId) (m key:Value) (Sz:St) (k:St->Bool):Bool:=let _:=P;false
noncomputable def Pz (t:TypeId) (x:Value) (Sz:St) (K:VK):Bool:=let _:=P;false
noncomputable def aCE (it:Value) (Sz:St) (K:VK):Bool:=false
noncomputable def Wu (it:Value) (Sz:St) (K:VK):Bool:=false
noncomputable def TM (big:Bool) (l:List Value) (j:IntKind) (x:Int) (K:Value->Bool):Bool:=
 gZ (β:=Int->Bool) (fun x=>K (.int j x)) (fun v _ ih x=>match v with
  | .int _ y=>cR (cR big (Mg x y) (Mg y x)) (ih y) (ih x)
  | _=>false) l x
noncomputable def DC (Sz:St) (size n:Nat) (x:Value) (k:List Value->Bool):Bool:=
 match x with
 | .slice none _ _=>match n with | 0=>k [] | _=>false
 | .slice (some ⟨i,o,sp⟩) _ _=>match n with
  | 0=>k []
  | n+1=>match sp with
   | some (_+1)=>false
   | _=>DO Sz i o ((n+1)*size) k
 | .string s=>match size with
  | 1=>uJ n s.data.toList fun l=>Wt l k
  | _=>false
 | _=>false
noncomputable def IG (x:Value) (k:Nat->Bool):Bool:=
 match x with
 | .slice _ n _=>k n
 | .string s=>mJ s.data.toList k
 | _=>false
noncomputable def MC (elem:TypeId) (old new:List Value) (n:Nat) (from_:Option (Nat×List Value×TypeId×List Nat)) (Sz:St) (K:VK):Bool:=
 AL old new fun cs=>
  match from_ with
  | none=>qZ Sz (.cells cs elem (.grown [])) fun i Sz=>K (.slice (some ⟨i,0,some 0⟩) n n) Sz
  | some (b,vs,e,olds)=>uG Sz b (.cells vs e .stale) fun Sz=>qZ Sz (.cells cs elem (.grown (b::olds))) fun i Sz=>K (.slice (some ⟨i,0,some 0⟩) n n) Sz
def Dz:Option TypeDesc->Bool
 | some (.slice _) | some .string=>true
 | _=>false
def Sl:Option Nat->Bool
 | none | some 0=>true
 | _=>false
noncomputable def Ea (size:Nat) (new:List Value) (base:Option Addr) (sLen sCap need:Nat) (Sz:St) (K:VK):Bool:=
 match base with
 | some ⟨b,o,sp⟩=>match Sl sp,allB oneCell new with
  | true,true=>dW (o+sLen*size) fun at_=>eX Sz b at_ new fun Sz=>K (.slice (some ⟨b,o,sp⟩) need sCap) Sz
  | _,_=>false
 | none=>false
noncomputable def WK (elem:TypeId) (size:Nat) (new:List Value) (base:Option Addr) (sLen need:Nat) (Sz:St) (K:VK):Bool:=
 match base with
 | none=>match sLen with | 0=>MC elem [] new need none Sz K | _=>false
 | some ⟨b,o,none⟩=>DO Sz b o (sLen*size) fun old=>MC elem old new need none Sz K
 | some ⟨b,o,some 0⟩=>lD Sz b fun vs e c=>mJ vs fun m=>match Nat.beq (o+sLen*size) m,c,cN P e with
  | true,.grown olds,some q=>match Nat.beq q size,allB oneCell new,Nat.beq e elem with
   | true,true,true=>DO Sz b o (sLen*size) fun old=>MC elem old new need (some (b,vs,e,olds)) Sz K
   | _,_,_=>false
  | _,_,_=>false
 | _=>false
noncomputable def KX (argTypes:List TypeId) (s x:Value) (Sz:St) (K:VK):Bool:=
 match argTypes with
 | sT::xT::_=>
  match isSlice P sT,Dz (P.underlying xT)with
  | some elem,true=>match P.info? elem with
   | some info=>match info.size,info.zero,s with
    | size+1,some z,.slice base sLen sCap=>match Nat.beq z.cells.size (size+1)with
     | true=>IG x fun n=>
      match n with
      | 0=>match Nat.ble sLen sCap with | true=>K (.slice base sLen sCap) Sz | false=>false
      | n'+1=>DC Sz (size+1) (n'+1) x fun new=>dW (sLen+(n'+1)) fun need=>
       match Nat.ble (need*(info.bytes+1)) 1099511627776 with
       | true=>match Nat.ble need sCap with
        | true=>Ea (size+1) new base sLen sCap need Sz K
        | false=>WK P elem (size+1) new base sLen need Sz K
       | false=>false
     | false=>false
    | _,_,_=>false
   | none=>false
  | _,_=>false
 | _=>false
noncomputable def Qa (argTypes:List TypeId) (dst src:Value) (Sz:St) (K:VK):Bool:=
 match argTypes with
 | dT::_=>match isSlice P dT with
  | some elem=>match cN P elem,dst with
   | some (size+1),.slice base dLen _=>IG src fun m=>dW (Nat.min m dLen) fun n=>
    match n with
    | 0=>K (.int .i64 (.ofNat 0)) Sz
    | n'+1=>DC Sz (size+1) (n'+1) src fun cs=>match base with
     | some ⟨i,o,sp⟩=>match Sl sp,allB oneCell cs with
      | true,true=>eX Sz i o cs fun Sz=>K (.int .i64 (.ofNat (n'+1))) Sz
      | _,_=>false
     | none=>false
   | _,_=>false
  | none=>false
 | []=>false
noncomputable def sC (b:Builtin) (argTypes:List TypeId) (args:List Value) (Sz:St) (K:VK):Bool:=
 match b,args with
 | .len,[x]=>match argTypes with
  | t::_=>match x with
   | .slice _ n _=>match isSlice P t with | some _=>K (.int .i64 (.ofNat n)) Sz | none=>false
   | .string s=>match P.underlying t with | some .string=>mJ s.data.toList fun n=>K (.int .i64 (.ofNat n)) Sz | _=>false
   | .map _=>match Dy P t with | some _=>aCR Sz x fun _ es _=>mJ es fun n=>K (.int .i64 (.ofNat n)) Sz | none=>false
   | .agg _=>match P.underlying t with | some (.array n _)=>K (.int .i64 (.ofNat n)) Sz | _=>false
   | _=>false
  | []=>false
 | .append,[s,x]=>KX P argTypes s x Sz K
 | .copy,[d,s]=>Qa P argTypes d s Sz K
 | .delete,[m,k]=>Py P argTypes m k Sz fun Sz=>K (.tuple #[]) Sz
 | .min,.int j x::l=>TM false l j x fun v=>K v Sz
 | .max,.int j x::l=>TM true l j x fun v=>K v Sz
 | .cap,[x]=>match argTypes with
  | t::_=>match isSlice P t,x with
   | some _,.slice none _ c=>K (.int .i64 (.ofNat c)) Sz
   | some _,.slice (some ⟨_,_,none⟩) _ c=>K (.int .i64 (.ofNat c)) Sz
   | _,_=>false
  | []=>false
 | .clear,[.slice base n _]=>match argTypes with
  | t::_=>match isSlice P t with
   | some elem=>match cN P elem,BX P elem with
    | some size,some zero=>match base,n with
     | none,_=>K (.tuple #[]) Sz
     | some _,0=>K (.tuple #[]) Sz
     | some ⟨i,o,sp⟩,n+1=>match Sl sp,Nat.beq zero.length size,allB cD zero,size with
      | true,true,true,_+1=>XF zero (n+1) fun cs=>eX Sz i o cs fun Sz=>K (.tuple #[]) Sz
      | _,_,_,_=>false
    | _,_=>false
   | none=>false
  | []=>false
 | _,_=>false
end ops
structure Env where
 P:Program
 ov:FuncId->Option (List Value->St->VK->Bool)
 call:TK
 round:Nat->List Value->St->VK->Bool
 most:Nat
def lT (P:Program) (t:TypeId) (name:String):Option FuncId:=match P.info? t,P.underlying t with
 | some info,some d=>match info.methods.find? (·.name==name)with
  | some m=>match m.path.toList,m.func with
   | [],some (g,pr)=>match d,pr with
    | .pointer _,true=>some g
    | .pointer _,false=>none
    | _,false=>some g
    | _,true=>none
   | _,_=>none
  | none=>none
 | _,_=>none
noncomputable def sU (E:Env) (A:bG) (c:Call) (Sz:St) (K:VK):Bool:=
 As A c.args.toList fun args=>
  match c.callee with
  | .builtin b=>sC E.P b c.argTypes.toList args Sz K
  | .value f=>rK A f fun f=>match f with
   | .func (.func g) first captured=>AL first.toList args fun l=>AL l captured.toList fun l=>E.call g l Sz K
   | .func (.yield l) first captured=>match first.toList,captured.toList with
    | [],[]=>E.round l args Sz K
    | _,_=>false
   | _=>false
  | .invoke r m=>rK A r fun v=>match v with
   | .iface t x=>match lT E.P t m with
    | some g=>E.call g (x::args) Sz K
    | none=>false
   | _=>false
noncomputable def XK (A:bG) (x:Option Operand) (k:Option Value->Bool):Bool:=
 match x with
 | none=>k none
 | some x=>rK A x fun v=>k (some v)
noncomputable def vU (E:Env) (o:Oper) (A:bG) (Sz:St) (K:VK):Bool:=
 match o.op with
 | .move x | .assign x=>rK A x fun v=>K v Sz
 | .pick c a b=>rK A c fun c=>rK A a fun a=>rK A b fun b=>match c with
  | .bool true=>K a Sz
  | .bool false=>K b Sz
  | _=>false
 | .alloc t=>MZ E.P t Sz K
 | .box t x=>rK A x fun v=>iP t v Sz K
 | .build t ps=>XG E.P A t ps.toList fun v=>K v Sz
 | .buildSlice t n ps=>tQ E.P A t n ps.toList Sz K
 | .load t a=>rK A a fun a=>MA E.P t a Sz K
 | .store t a x=>rK A a fun a=>rK A x fun x=>RL E.P t a x Sz fun Sz=>K undef Sz
 | .nilCheck x=>rK A x fun v=>match v with
  | .pointer (some a)=>K (.pointer (some a)) Sz
  | .func (.func f) a b=>K (.func (.func f) a b) Sz
  | .func (.yield f) a b=>K (.func (.yield f) a b) Sz
  | .func (.method s) ⟨[.iface t w]⟩ ⟨[]⟩=>match lT E.P t s with
   | some _=>K (.func (.method s) ⟨[.iface t w]⟩ ⟨[]⟩) Sz
   | none=>false
  | .iface t w=>K (.iface t w) Sz
  | _=>false
 | .binOp op t x y _=>rK A x fun a=>rK A y fun b=>Hq E.P op t a b fun v=>K v Sz
 | .unOp op _ x=>rK A x fun a=>Ar op a fun v=>K v Sz
 | .convert s d x=>rK A x fun a=>DP E.P s d a Sz K
 | .makeInterface t x=>rK A x fun v=>match E.P.underlying t with
  | some (.interface _)=>false
  | some _=>K (.iface t v) Sz
  | none=>false
 | .makeFunc fn first cap=>match fn with
  | .func f=>As A first.toList fun a=>As A cap.toList fun b=>K (.func (.func f) ⟨a⟩ ⟨b⟩) Sz
  | .method s=>match first.toList,cap.toList with
   | [x],[]=>rK A x fun v=>K (.func (.method s) ⟨[v]⟩ ⟨[]⟩) Sz
   | _,_=>false
  | _=>false
 | .makeMap _ none=>qZ Sz (.map [] 0) fun i Sz=>K (.map (some i)) Sz
 | .makeMap t (some r)=>rK A r fun r=>match r,Dy E.P t with
  | .int _ _,some _=>qZ Sz (.map [] 0) fun i Sz=>K (.map (some i)) Sz
  | _,_=>false
 | .range t x=>rK A x fun x=>Pz E.P t x Sz K
 | .next it s=>rK A it fun it=>match s with | true=>false | false=>aCE it Sz K
 | .entry it=>rK A it fun it=>Wu it Sz K
 | .typeAssert x _ as ok=>rK A x fun v=>match v,E.P.underlying as with
  | .iface _ _,some (.interface _)=>false
  | .iface t w,some _=>match Nat.beq t as,ok with
   | true,true=>K (.tuple ⟨[w,.bool true]⟩) Sz
   | true,false=>K w Sz
   | false,_=>false
  | _,_=>false
 | .makeSlice t l c=>rK A l fun l=>rK A c fun c=>qI E.P t l c Sz K
 | .slice t x lo hi mx=>match mx,hi with
  | some _,none=>false
  | _,_=>rK A x fun x=>XK A lo fun lo=>XK A hi fun hi=>XK A mx fun mx=>wA E.P t x lo hi mx Sz fun v=>K v Sz
 | .fieldAddr s x f=>rK A x fun x=>wC E.P s x f fun v=>K v Sz
 | .field t x f=>rK A x fun x=>IE E.P t x f fun v=>K v Sz
 | .indexAddr t x ix=>rK A x fun x=>rK A ix fun ix=>wB E.P t x ix fun v=>K v Sz
 | .index t x ix=>rK A x fun x=>rK A ix fun ix=>RM E.P t x ix fun v=>K v Sz
 | .lookup t x ix ok=>rK A x fun x=>rK A ix fun ix=>Px E.P t x ix ok Sz K
 | .mapUpdate t m k x | .insert t m k x=>rK A m fun m=>rK A k fun k=>rK A x fun x=>XJ E.P t m k x Sz fun Sz=>K undef Sz
 | .mapEntry t m k=>rK A m fun m=>rK A k fun k=>Ch E.P t m k Sz K
 | .entryStore _ m s x=>rK A m fun m=>rK A s fun s=>rK A x fun x=>TL m s x Sz fun Sz=>K undef Sz
 | .extract t i=>rK A t fun v=>match v with
  | .tuple vs=>xJ vs.toList i fun v=>K v Sz
  | _=>false
 | .call c=>sU E A c Sz K
 | _=>false
noncomputable def AM (ops:Array Oper) (o:Oper) (A:bG) (k:Bool->Bool):Bool:=
 match o.guard with
 | none=>k true
 | some (j,want)=>match ops[j]? with
  | some o'=>match o'.dst with
   | some d=>VC A.tmps d fun v=>match v with
    | .bool b=>match b,want with | true,true | false,false=>k true | _,_=>k false
    | _=>k false
   | none=>k false
  | none=>k false
noncomputable def Ci (E:Env) (ops:Array Oper) (o:Oper) (A:bG) (Sz:St) (k:bG->St->Bool):Bool:=
 AM ops o A fun b=>cR b (vU E o A Sz fun v Sz=>lS A o.dst v fun A=>k A Sz) (lS A o.dst undef fun A=>k A Sz)
noncomputable def OD (E:Env) (ops:Array Oper) (l:List Oper) (A:bG) (Sz:St) (k:bG->St->Bool):Bool:=
 gZ (β:=bG->St->Bool) (fun A Sz=>k A Sz) (fun o _ ih A Sz=>Ci E ops o A Sz ih) l A Sz
abbrev OE:=OC->bG->St->Bool
noncomputable def Qb (body:bG->St->OE->Bool) (most:Nat) (A:bG) (Sz:St) (K:OE):Bool:=
 ID (β:=bG->St->Bool) (fun _ _=>false) (fun _ ih A Sz=>body A Sz fun e A Sz=>match e with | .normal=>ih A Sz | e=>K e A Sz) most A Sz
noncomputable def XL (E:Env) (r:Option Nat) (f:Operand) (params:Array Tmp) (assign body:Code) (A:bG) (Sz:St) (K:OE):Bool:=
 rK A f fun f=>match f with
  | .func (.func g) first captured=>
   let go (A:bG) (Sz:St):Bool:=qZ Sz (.loop A.tmps params.toList assign body .ready none) fun l Sz=>
    AL first.toList [.func (.yield l) #[] #[]] fun as=>AL as captured.toList fun as=>E.call g as Sz fun _ Sz=>
     uI Sz.h l fun o=>match o with
      | .loop tm ps as bo st pe=>match st with
       | .busy=>false
       | _=>uG Sz l (.loop tm ps as bo .exhausted pe) fun Sz=>match pe with
        | none=>K .normal A Sz
        | some .ret=>K .ret A Sz
        | some (.exit id)=>K (.exit id) A Sz
        | _=>false
      | _=>false
   match r with
   | some l=>uI Sz.h l fun o=>match o with | .loop _ _ _ _ _ _=>go A Sz | _=>false
   | none=>qZ Sz .defers fun d Sz=>go ⟨A.tmps,d::A.marks,A.g⟩ Sz
  | _=>false
noncomputable def qJ (E:Env) (dr:Array Oper->bG->St->(bG->St->Bool)->Bool) (r:Option Nat) (c:Code):bG->St->OE->Bool:=
 aEt (β:=bG->St->OE->Bool)
  (fun A Sz K=>K .normal A Sz)
  (fun ops draw A Sz K=>cR draw (dr ops A Sz fun A Sz=>K .normal A Sz) (OD E ops ops.toList A Sz fun A Sz=>K .normal A Sz))
  (fun ha hb A Sz K=>ha A Sz fun e A Sz=>match e with | .normal=>hb A Sz K | e=>K e A Sz)
  (fun c ha hb A Sz K=>rK A c fun v=>match v with | .bool b=>cR b (ha A Sz K) (hb A Sz K) | _=>false)
  (fun id h A Sz K=>h A Sz fun e A Sz=>match e with
   | .exit i=>match Nat.beq i id with | true=>K .normal A Sz | false=>K (.exit i) A Sz
   | e=>K e A Sz)
  (fun h A Sz K=>Qb h E.most A Sz K)
  (fun h A Sz K=>h A Sz K)
  (fun f params assign body A Sz K=>XL E r f params assign body A Sz K)
  (fun id A Sz K=>K (.exit id) A Sz)
  (fun A Sz K=>K .normal A Sz)
  (fun A Sz K=>K .ret A Sz)
  (fun _ _ _=>false) c
noncomputable def NA (l:List Nat) (Sz:St) (k:St->Bool):Bool:=
 gZ (β:=St->Bool) (fun Sz=>k Sz) (fun d _ ih Sz=>uI Sz.h d fun o=>match o with | .defers=>uG Sz d .dead ih | _=>false) l Sz
noncomputable def xO (P:Program) (rs:List ResultVar) (A:bG) (Sz:St) (k:List Value->Bool):Bool:=
 gZ (β:=(List Value->Bool)->Bool) (fun k=>k []) (fun x _ ih k=>match x with
  | .tmp t=>VC A.tmps t fun v=>ih fun vs=>k (v::vs)
  | .cell a t=>VC A.tmps a fun a=>MA P t a Sz fun v _=>ih fun vs=>k (v::vs)) rs k
noncomputable def NB (E:Env) (dr:Array Oper->bG->St->(bG->St->Bool)->Bool) (f:FuncId) (args:List Value) (Sz:St) (K:VK):Bool:=
 match E.P.funcs[f]? with
 | some fn=>match fn.body with
  | some c=>dW fn.ntmps fun n=>Pw n args fun ts=>qJ E dr none c ⟨ts,[],E.P.globals.size⟩ Sz fun e A Sz=>
   match e with
   | .exit _=>false
   | _=>NA A.marks Sz fun Sz=>xO E.P fn.results.toList A Sz fun vs=>match vs with | [v]=>K v Sz | vs=>K (.tuple ⟨vs⟩) Sz
  | none=>false
 | none=>false
noncomputable def RN (E:Env) (dr:Array Oper->bG->St->(bG->St->Bool)->Bool) (l:Nat) (args:List Value) (Sz:St) (K:VK):Bool:=
 uI Sz.h l fun o=>match o with
  | .loop tmps params assign body _ _=>
   let laid:List Tmp->List Value->Tm->(Tm->Bool)->Bool:=fun ps=>gZ (β:=List Value->Tm->(Tm->Bool)->Bool)
    (fun as ts k=>match as with | []=>k ts | _=>false) (fun p _ ih as ts k=>match as with | a::as=>uK a ts p fun ts=>ih as ts k | []=>false) ps
   laid params args tmps fun ts=>qJ E dr (some l) assign ⟨ts,[],E.P.globals.size⟩ Sz fun e A Sz=>match e with
    | .normal=>uI Sz.h l fun o=>match o with
     | .loop tm ps as bo .ready pe=>uG Sz l (.loop tm ps as bo .busy pe) fun Sz=>qJ E dr (some l) body A Sz fun e _ Sz=>
      uI Sz.h l fun o=>match o with
       | .loop tm ps as bo _ _=>match e with
        | .normal=>uG Sz l (.loop tm ps as bo .ready none) fun Sz=>K (.bool true) Sz
        | .ret=>uG Sz l (.loop tm ps as bo .done (some .ret)) fun Sz=>K (.bool false) Sz
        | .exit id=>uG Sz l (.loop tm ps as bo .done (some (.exit id))) fun Sz=>K (.bool false) Sz
       | _=>false
     | _=>false
    | _=>false
  | _=>false
noncomputable def env (P:Program) (ov:FuncId->Option (List Value->St->VK->Bool)) (dr:Env->Array Oper->bG->St->(bG->St->Bool)->Bool) (most:Nat) (n:Nat):Env:=
 ID (β:=Env) {P,ov,call:=fun _ _ _ _=>false,round:=fun _ _ _ _=>false,most}
  (fun _ E=>{P,ov,call:=fun f args Sz K=>match ov f with | some g=>g args Sz K | none=>NB E (dr E) f args Sz K,round:=fun l args Sz K=>RN E (dr E) l args Sz K,most}) n
section comb
variable{α β:Type}
theorem AP (z:β) (s:Nat->β):pY 0 z s=z:=rfl
theorem XR (n:Nat) (z:β) (s:Nat->β):pY (n+1) z s=s n:=rfl
theorem AQ (z:β) (s:α->List α->β->β):gZ z s []=z:=rfl
theorem cE (a:α) (l:List α) (z:β) (s:α->List α->β->β):gZ z s (a::l)=s a l (gZ z s l):=rfl
theorem Ck (z:β) (s:Nat->β->β):ID z s 0=z:=rfl
theorem So (n:Nat) (z:β) (s:Nat->β->β):ID z s (n+1)=s n (ID z s n):=rfl
theorem dE (n:Nat) (k:Nat->Bool):dW n k=k n:=by cases n<;>rfl
theorem iO (n:Int) (k:Int->Bool):vZ n k=k n:=by cases n<;>simp [vZ,aCD,dE]
theorem nH (b:Bool) (k:Bool->Bool):MY b k=k b:=by cases b<;>rfl
theorem CB (t:Tr α) (n:Nat) (k:α->Bool):uI t n k=match t.get n with | some x=>k x | none=>false:=by
 induction t generalizing n with
 | leaf=>rfl
 | node v l r ihl ihr=>
  cases n with
  | zero=>cases v<;>rfl
  | succ p=>
   have hd:uI (.node v l r) (p+1) k=(pY (Nat.mod p 2) (uI l (Nat.div p 2) k) fun _=>uI r (Nat.div p 2) k):=rfl;rw [hd];have hm:p%2=0\/p%2=1:=by omega
   rcases hm with hm | hm
   ·have:Nat.mod p 2=0:=hm
    rw [this,AP,ihl];have e1:(p+1) / 2=Nat.div p 2:=by show _=p / 2;omega
    simp only [Tr.get,Nat.add_eq_zero_iff,Nat.one_ne_zero,and_false,if_false,show(p+1)%2=1 by omega,if_true,e1]
   ·have:Nat.mod p 2=1:=hm
    rw [this];show uI r (Nat.div p 2) k=_;rw [ihr];have e1:(p+1) / 2-1=Nat.div p 2:=by show _=p / 2;omega
    simp only [Tr.get,Nat.add_eq_zero_iff,Nat.one_ne_zero,and_false,if_false,show ¬(p+1)%2=1 by omega,e1]
theorem FP (x:α):∀(f:Nat) (t:Tr α) (n:Nat) (k:Tr α->Bool),MX x f t n k=k (Tr.IC x f t n):=by
 intro f;induction f with
 | zero=>intro t n k;rfl
 | succ f ih=>
  intro t n k
  have hs:MX x (f+1) t n k=tcase t
   (pY n (k (.node (some x) .leaf .leaf)) fun p=>pY (Nat.mod p 2) (MX x f .leaf (Nat.div p 2) fun c=>k (.node none c .leaf)) fun _=>MX x f .leaf (Nat.div p 2) fun c=>k (.node none .leaf c))
   (fun v l r=>pY n (k (.node (some x) l r)) fun p=>pY (Nat.mod p 2) (MX x f l (Nat.div p 2) fun c=>k (.node v c r)) fun _=>MX x f r (Nat.div p 2) fun c=>k (.node v l c)):=rfl
  rw [hs];cases t with
  | leaf=>
   cases n with
   | zero=>simp [tcase,Tr.IC,AP]
   | succ p=>
    show(pY (Nat.mod p 2) _ fun _=>_)=_;have hm:p%2=0\/p%2=1:=by omega
    rcases hm with hm | hm
    ·have h0:Nat.mod p 2=0:=hm
     rw [h0,AP,ih];have e1:(p+1) / 2=Nat.div p 2:=by show _=p / 2;omega
     simp [Tr.IC,show(p+1)%2=1 by omega,e1]
    ·have h0:Nat.mod p 2=0+1:=hm
     rw [h0,XR,ih];have e1:(p+1) / 2-1=Nat.div p 2:=by show _=p / 2;omega
     simp [Tr.IC,show ¬(p+1)%2=1 by omega,e1]
  | node v l r=>
   cases n with
   | zero=>simp [tcase,Tr.IC,AP]
   | succ p=>
    show(pY (Nat.mod p 2) _ fun _=>_)=_;have hm:p%2=0\/p%2=1:=by omega
    rcases hm with hm | hm
    ·have h0:Nat.mod p 2=0:=hm
     rw [h0,AP,ih];have e1:(p+1) / 2=Nat.div p 2:=by show _=p / 2;omega
     simp [Tr.IC,show(p+1)%2=1 by omega,e1]
    ·have h0:Nat.mod p 2=0+1:=hm
     rw [h0,XR,ih];have e1:(p+1) / 2-1=Nat.div p 2:=by show _=p / 2;omega
     simp [Tr.IC,show ¬(p+1)%2=1 by omega,e1]
theorem Hx (x:α):∀(f:Nat) (t:Tr α) (n m:Nat),n<f->(Tr.IC x f t n).get m=if m=n then some x else t.get m:=by
 intro f;induction f with
 | zero=>intro t n m h;omega
 | succ f ih=>
  intro t n m h;have hl:∀m,(Tr.leaf:Tr α).get m=none:=fun m=>rfl;cases t with
  | leaf=>
   simp only [Tr.IC];by_cases h0:n=0
   ·subst h0
    by_cases hm:m=0<;>simp [Tr.get,hm]
   ·by_cases h1:n%2=1
    ·simp only [h0,h1,if_true,if_false,Tr.get]
     by_cases hm:m=0
     ·subst hm;simp [Ne.symm h0]
     ·by_cases h2:m%2=1
      ·rw [if_neg hm,if_pos h2,ih _ _ _ (by omega)]
       by_cases e:m=n
       ·subst e;simp
       ·rw [if_neg e,if_neg (by omega),hl]
      ·rw [if_neg hm,if_neg h2,if_neg (by omega)]
    ·simp only [h0,h1,if_false,Tr.get]
     by_cases hm:m=0
     ·subst hm;simp [Ne.symm h0]
     ·by_cases h2:m%2=1
      ·rw [if_neg hm,if_pos h2,if_neg (by omega)]
      ·rw [if_neg hm,if_neg h2,ih _ _ _ (by omega)]
       by_cases e:m=n
       ·subst e;simp
       ·rw [if_neg e,if_neg (by omega),hl]
  | node v l r=>
   simp only [Tr.IC];by_cases h0:n=0
   ·subst h0
    by_cases hm:m=0<;>simp [Tr.get,hm]
   ·by_cases h1:n%2=1
    ·simp only [h0,h1,if_true,if_false,Tr.get]
     by_cases hm:m=0
     ·subst hm;simp [Ne.symm h0]
     ·by_cases h2:m%2=1
      ·rw [if_neg hm,if_pos h2,ih _ _ _ (by omega)]
       by_cases e:m=n
       ·subst e;simp
       ·rw [if_neg e,if_neg (by omega),if_neg hm,if_pos h2]
      ·rw [if_neg hm,if_neg h2,if_neg (by omega),if_neg hm,if_neg h2]
    ·simp only [h0,h1,if_false,Tr.get]
     by_cases hm:m=0
     ·subst hm;simp [Ne.symm h0]
     ·by_cases h2:m%2=1
      ·rw [if_neg hm,if_pos h2,if_neg (by omega),if_neg hm,if_pos h2]
      ·rw [if_neg hm,if_neg h2,ih _ _ _ (by omega)]
       by_cases e:m=n
       ·subst e;simp
       ·rw [if_neg e,if_neg (by omega),if_neg hm,if_neg h2]
theorem get_put (t:Tr α) (n:Nat) (x:α) (m:Nat):(t.put n x).get m=if m=n then some x else t.get m:=Hx x _ t n m (Nat.lt_succ_self n)
theorem El (l:List α) (i:Nat) (k:α->Bool):xJ l i k=match l[i]? with | some a=>k a | none=>false:=by
 induction l generalizing i with
 | nil=>rfl
 | cons a l ih=>
  cases i with
  | zero=>rfl
  | succ i=>exact(ih i).trans (by simp)
theorem Qc (l:List α) (k:List α->Bool):aA8 l k=k l:=by
 induction l generalizing k with
 | nil=>rfl
 | cons a l ih=>exact ih _
theorem mV (l m:List α) (k:List α->Bool):AL l m k=k (l++m):=by
 induction l generalizing k with
 | nil=>rfl
 | cons a l ih=>exact ih _
theorem fL (n:Nat) (l:List α) (k:List α->Bool):uJ n l k=if n<=l.length then k (l.take n)else false:=by
 induction n generalizing l k with
 | zero=>simp [uJ,Ck]
 | succ n ih=>
  cases l with
  | nil=>rfl
  | cons a l=>
   show uJ n l (fun t'=>k (a::t'))=_;rw [ih];simp
theorem eH (n:Nat) (l:List α) (k:List α->Bool):oE n l k=if n<=l.length then k (l.drop n)else false:=by
 induction n generalizing l with
 | zero=>simp [oE,Ck]
 | succ n ih=>
  cases l with
  | nil=>rfl
  | cons a l=>
   show oE n l k=_;rw [ih];simp
def splice (off:Nat) (new l:List α):List α:=l.take off++new++l.drop (off+new.length)
theorem Wy (new l:List α) (k:List α->Bool):Ho new l k=if new.length<=l.length then k (new++l.drop new.length)else false:=by
 induction new generalizing l k with
 | nil=>simp [Ho,AQ]
 | cons a new ih=>
  cases l with
  | nil=>rfl
  | cons b l=>
   show Ho new l (fun t'=>k (a::t'))=_;rw [ih];simp
theorem gS (off:Nat) (new l:List α) (k:List α->Bool):iA off new l k=if off+new.length<=l.length then k (splice off new l)else false:=by
 induction off generalizing l k with
 | zero=>
  show Ho new l k=_;rw [Wy];simp [splice]
 | succ off ih=>
  cases l with
  | nil=>show false=_;rw [if_neg (by simp)]
  | cons b l=>
   show iA off new l (fun t'=>k (b::t'))=_;rw [ih];have:off+1+new.length<=(b::l).length↔off+new.length<=l.length:=by simp;omega
   simp only [this];have e:splice (off+1) new (b::l)=b::splice off new l:=by simp [splice,show off+1+new.length=(off+new.length)+1 by omega]
   rw [e]
theorem mK (off:Nat) (new l:List α) (h:off+new.length<=l.length):(splice off new l).length=l.length:=by simp [splice];omega
theorem oN (off:Nat) (new l:List α) (h:off+new.length<=l.length) (j:Nat):
 (splice off new l)[j]? =if off<=j/\j<off+new.length then new[j-off]? else l[j]? :=by
 unfold splice;by_cases h1:j<off
 ·rw [if_neg (by omega),List.append_assoc,List.getElem?_append_left (by simp;omega),List.getElem?_take,if_pos h1]
 ·by_cases h2:j<off+new.length
  ·rw [if_pos (by omega),List.append_assoc,List.getElem?_append_right (by simp;omega),List.getElem?_append_left (by simp;omega)]
   congr 1;simp;omega
  ·rw [if_neg (by omega),List.getElem?_append_right (by simp;omega),List.getElem?_drop]
   congr 1;simp;omega
theorem cV (l:List α) (k:Nat->Bool):mJ l k=k l.length:=by
 have h:∀(l:List α) (n:Nat),gZ (β:=Nat->Bool) (fun n=>k n) (fun _ _ ih n=>dW (Nat.succ n) ih) l n=k (n+l.length):=by
  intro l;induction l with
  | nil=>intro n;rfl
  | cons a l ih=>
   intro n;rw [cE,dE,ih]
   congr 1;simp;omega
 unfold mJ;rw [h,Nat.zero_add]
theorem CA (z:List α) (n:Nat) (k:List α->Bool):XF z n k=k (List.replicate n z).flatten:=by
 have h:∀(n:Nat) (acc:List α),ID (β:=List α->Bool) (fun acc=>k acc) (fun _ ih acc=>AL z acc ih) n acc=k ((List.replicate n z).flatten++acc):=by
  intro n;induction n with
  | zero=>intro acc;rfl
  | succ n ih=>
   intro acc;rw [So,mV,ih]
   have:(List.replicate n z).flatten++(z++acc)=(List.replicate (n+1) z).flatten++acc:=by
    rw [List.replicate_succ',List.flatten_append];simp
   rw [this]
 unfold XF;rw [h,List.append_nil]
theorem jW (f:α->Bool) (l:List α):allB f l=l.all f:=by
 induction l with
 | nil=>rfl
 | cons a l ih=>
  show cR (f a) (allB f l) false=_;cases h:f a<;>simp [cR,h,ih]
end comb
theorem XS (l:List Nat) (h:Tr fS) (k:Tr fS->Bool):Hp l h k=k (l.foldl (fun h i=>h.put i .dead) h):=by
 induction l generalizing h with
 | nil=>rfl
 | cons i l ih=>
  show MX .dead (Nat.succ i) h i (fun h=>Hp l h k)=_;rw [FP,ih];rfl
theorem Wz (l:List Nat) (h:Tr fS) (m:Nat):(l.foldl (fun h i=>h.put i fS.dead) h).get m=if m∈l then some .dead else h.get m:=by
 induction l generalizing h with
 | nil=>simp
 | cons i l ih=>
  rw [List.foldl_cons,ih,get_put];by_cases h1:m∈l
  ·simp [h1]
  ·by_cases h2:m=i
   ·simp [h2]
   ·simp [h1,h2]
def St.set (Sz:St) (i:Nat) (o:fS):St:=⟨Sz.h.put i o,Sz.n⟩
def St.new (Sz:St) (o:fS):St:=⟨Sz.h.put Sz.n o,Sz.n+1⟩
def St.obj (Sz:St) (i:Nat):Option fS:=Sz.h.get i
theorem wZ (Sz:St) (i:Nat) (o:fS) (j:Nat):(Sz.set i o).obj j=if j=i then some o else Sz.obj j:=get_put _ _ _ _
theorem FO (Sz:St) (o:fS) (j:Nat):(Sz.new o).obj j=if j=Sz.n then some o else Sz.obj j:=get_put _ _ _ _
theorem gE (Sz:St) (o:fS) (k:Nat->St->Bool):qZ Sz o k=k Sz.n (Sz.new o):=by simp [qZ,FP,dE,St.new,Tr.put]
theorem jX (Sz:St) (i:Nat) (o:fS) (k:St->Bool):uG Sz i o k=k (Sz.set i o):=by simp [uG,FP,St.set,Tr.put]
theorem kX{Sz:St}{i:Nat}{k:List Value->TypeId->CK->Bool} (h:lD Sz i k=true):∃vs e c,Sz.obj i=some (.cells vs e c)/\k vs e c=true:=by
 unfold lD at h;rw [CB]at h;cases ho:Sz.h.get i with
 | none=>simp [ho]at h
 | some o=>cases o<;>simp [ho]at h;exact⟨_,_,_,ho,h⟩
theorem wE{Sz:St}{i off n:Nat}{k:List Value->Bool} (h:DO Sz i off n k=true):
 ∃vs e c,Sz.obj i=some (.cells vs e c)/\off+n<=vs.length/\k ((vs.drop off).take n)=true:=by
 obtain⟨vs,e,c,ho,h⟩:=kX h;rw [eH]at h;split at h
 ·rw [fL]at h
  split at h
  ·rename_i h1 h2
   exact⟨vs,e,c,ho,by simp at h2;omega,h⟩
  ·simp at h
 ·simp at h
theorem DS{α:Type}{l:List α}{i:Nat}{k:α->Bool} (h:xJ l i k=true):∃a,l[i]? =some a/\k a=true:=by
 rw [El]at h;cases ha:l[i]? with
 | none=>simp [ha]at h
 | some a=>exact⟨a,rfl,by simpa [ha]using h⟩
theorem AR{T:Tm}{i:Nat}{k:Value->Bool} (h:VC T i k=true):∃v,T.t.get i=some v/\k v=true:=by
 unfold VC at h;rw [CB]at h;cases hx:T.t.get i with
 | none=>rw [hx]at h;cases h
 | some x=>rw [hx]at h;exact⟨x,rfl,h⟩
def Tm.put (T:Tm) (i:Nat) (v:Value):Tm:=⟨T.t.put i v,T.n⟩
theorem wH{v:Value}{T:Tm}{i:Nat}{k:Tm->Bool} (h:uK v T i k=true):i<T.n/\k (T.put i v)=true:=by
 unfold uK at h;split at h
 ·rename_i hb
  rw [FP]at h;exact⟨Nat.le_of_ble_eq_true hb,h⟩
 ·cases h
theorem Xa{A:bG}{x:Operand}{k:Value->Bool} (h:rK A x k=true):
 ∃v,k v=true/\((∃t,x= .tmp t/\A.tmps.t.get t=some v)\/(x= .const v/\xK v=true)\/(∃g,x= .global g/\g<A.g/\v= .pointer (some ⟨g,0,none⟩))\/(∃f,x= .func f/\v= .func (.func f) #[] #[])):=by
 cases x with
 | tmp t=>obtain⟨a,ha,hk⟩:=AR h;exact⟨a,hk,.inl ⟨t,rfl,ha⟩⟩
 | const v=>
  cases hf:xK v with
  | true=>exact⟨v,by simpa [rK,hf]using h,.inr (.inl ⟨rfl,hf⟩)⟩
  | false=>simp [rK,hf]at h
 | global g=>
  cases hg:Nat.blt g A.g with
  | true=>exact⟨_,by simpa [rK,hg]using h,.inr (.inr (.inl ⟨g,rfl,Nat.le_of_ble_eq_true hg,rfl⟩))⟩
  | false=>simp [rK,hg]at h
 | func f=>exact⟨_,h,.inr (.inr (.inr ⟨f,rfl,rfl⟩))⟩
end Go.Am
namespace Go.Am
open Go.RowKit
structure Loc where
 b:Nat
 s:Nat
 e:Nat
 m:Nat
abbrev Rn:=Nat->Option Loc
inductive VR (U:Rn):Value->Value->Prop
 | flat {v:Value} (h:cD v=true):VR U v v
 | ptr {i o:Nat} {L:Loc} (h:U i=some L):VR U (.pointer (some ⟨i,o,none⟩)) (.pointer (some ⟨L.b,L.s+o,none⟩))
 | slice {i o n c:Nat} {L:Loc} (h:U i=some L):VR U (.slice (some ⟨i,o,none⟩) n c) (.slice (some ⟨L.b,L.s+o,none⟩) n c)
 | lU {i o n c c':Nat} {L:Loc} (h:U i=some L) (hc:c<=c') (hn:n<=c) (he:L.s+o+c'*L.m=L.e) (hm:0<L.m):VR U (.slice (some ⟨i,o,some 0⟩) n c) (.slice (some ⟨L.b,L.s+o,none⟩) n c')
 | uM {i c':Nat} {a:Addr}:VR U (.slice (some ⟨i,0,some 1⟩) 0 0) (.slice (some a) 0 c')
 | uN {b o s:Nat} {sp:Option Nat} (hs:sp=match s with | 0=>none | k+1=>some k):VR U (.slice (some ⟨b,o,some (s+2)⟩) 0 0) (.slice (some ⟨b,o,sp⟩) 0 0)
 | map {i:Nat} {L:Loc} (h:U i=some L):VR U (.map (some i)) (.map (some L.b))
 | func {f:FuncId} {a a' c c':Array Value} (ha:a.size=a'.size) (hc:c.size=c'.size) (h1:∀(k:Nat) (v v':Value),a.toList[k]? =some v->a'.toList[k]? =some v'->VR U v v')
  (h2:∀(k:Nat) (v v':Value),c.toList[k]? =some v->c'.toList[k]? =some v'->VR U v v'):VR U (.func (.func f) a c) (.func (.func f) a' c')
 | yield {l:Nat} {L:Loc} (h:U l=some L):VR U (.func (.yield l) #[] #[]) (.func (.yield L.b) #[] #[])
 | meth {s:String} {v v':Value} (h:VR U v v'):VR U (.func (.method s) ⟨[v]⟩ ⟨[]⟩) (.func (.method s) ⟨[v']⟩ ⟨[]⟩)
 | iface {t:TypeId} {v v':Value} (h:VR U v v'):VR U (.iface t v) (.iface t v')
 | agg {a a':Array Value} (ha:a.size=a'.size) (h1:∀(k:Nat) (v v':Value),a.toList[k]? =some v->a'.toList[k]? =some v'->VR U v v'):VR U (.agg a) (.agg a')
 | tuple {a a':Array Value} (ha:a.size=a'.size) (h1:∀(k:Nat) (v v':Value),a.toList[k]? =some v->a'.toList[k]? =some v'->VR U v v'):VR U (.tuple a) (.tuple a')
def gO (U:Rn) (l l':List Value):Prop:=l.length=l'.length/\∀(k:Nat) (v v':Value),l[k]? =some v->l'[k]? =some v'->VR U v v'
def Ia (U:Rn) (T:Tm) (l':List Value):Prop:=T.n=l'.length/\∀(k:Nat) (v:Value),T.t.get k=some v->∃v',l'[k]? =some v'/\VR U v v'
theorem Ia.get{U:Rn}{T:Tm}{l':List Value} (h:Ia U T l'){k:Nat}{v:Value} (hv:T.t.get k=some v):∃v',l'[k]? =some v'/\VR U v v':=h.2 k v hv
theorem Ia.set{U:Rn}{T:Tm}{l':List Value} (h:Ia U T l'){i:Nat} (hi:i<T.n){v v':Value} (hv:VR U v v'):Ia U (T.put i v) (l'.set i v'):=by
 refine⟨by simpa [Tm.put]using h.1,fun k x hx=>?_⟩;have hx:(T.t.put i v).get k=some x:=hx;rw [get_put]at hx;have hl:i<l'.length:=by rw [<-h.1];exact hi
 by_cases e:k=i
 ·subst e
  rw [if_pos rfl]at hx;injection hx with hx;subst hx;exact⟨v',by simp [hl],hv⟩
 ·rw [if_neg e]at hx
  obtain⟨y,hy,hr⟩:=h.2 k x hx;exact⟨y,by rw [List.getElem?_set_ne (Ne.symm e)];exact hy,hr⟩
def Ext (U U':Rn):Prop:=∀i L,U i=some L->U' i=some L
theorem Ext.refl (U:Rn):Ext U U:=fun _ _ h=>h
theorem Ext.trans{a b c:Rn} (h:Ext a b) (k:Ext b c):Ext a c:=fun i L e=>k i L (h i L e)
theorem VR.mono{U U':Rn} (he:Ext U U'){v v':Value} (h:VR U v v'):VR U' v v':=by
 induction h with
 | flat h=>exact .flat h
 | ptr h=>exact .ptr (he _ _ h)
 | slice h=>exact .slice (he _ _ h)
 | lU h hc hn hh hm=>exact .lU (he _ _ h) hc hn hh hm
 | uM=>exact .uM
 | uN hs=>exact .uN hs
 | map h=>exact .map (he _ _ h)
 | func ha hc _ _ i1 i2=>exact .func ha hc i1 i2
 | yield h=>exact .yield (he _ _ h)
 | meth _ ih=>exact .meth ih
 | iface _ ih=>exact .iface ih
 | agg ha _ ih=>exact .agg ha ih
 | tuple ha _ ih=>exact .tuple ha ih
theorem gO.mono{U U':Rn} (he:Ext U U'){l l':List Value} (h:gO U l l'):gO U' l l':=⟨h.1,fun k v v' a b=>(h.2 k v v' a b).mono he⟩
theorem Ia.mono{U U':Rn} (he:Ext U U'){T:Tm}{l':List Value} (h:Ia U T l'):Ia U' T l':=⟨h.1,fun k v hv=>let⟨v',a,b⟩:=h.2 k v hv;⟨v',a,b.mono he⟩⟩
theorem gO.nil (U:Rn):gO U [] []:=⟨rfl,by simp⟩
theorem gO.cons{U:Rn}{v v':Value}{l l':List Value} (h:VR U v v') (t:gO U l l'):gO U (v::l) (v'::l'):=by
 refine⟨by simp [t.1],fun k x x' a b=>?_⟩;cases k with
 | zero=>simp at a b;subst a b;exact h
 | succ k=>simp at a b;exact t.2 k x x' a b
theorem gO.head{U:Rn}{v v':Value}{l l':List Value} (h:gO U (v::l) (v'::l')):VR U v v':=h.2 0 v v' rfl rfl
theorem gO.tail{U:Rn}{v v':Value}{l l':List Value} (h:gO U (v::l) (v'::l')):gO U l l':=
 ⟨by simpa using h.1,fun k x x' a b=>h.2 (k+1) x x' (by simpa using a) (by simpa using b)⟩
theorem gO.jY{U:Rn}{l':List Value} (h:gO U [] l'):l'=[]:=List.eq_nil_of_length_eq_zero (by simpa using h.1.symm)
theorem gO.dI{U:Rn}{v:Value}{l l':List Value} (h:gO U (v::l) l'):∃v' t',l'=v'::t'/\VR U v v'/\gO U l t':=by
 cases l' with
 | nil=>have:=h.1;simp at this
 | cons v' t'=>exact⟨v',t',rfl,h.head,h.tail⟩
theorem gO.get{U:Rn}{l l':List Value} (h:gO U l l'){k:Nat}{v:Value} (hv:l[k]? =some v):∃v',l'[k]? =some v'/\VR U v v':=by
 have hk:k<l'.length:=by rw [<-h.1];exact(List.getElem?_eq_some_iff.1 hv).1
 exact⟨l'[k],List.getElem?_eq_getElem hk,h.2 k v _ hv (List.getElem?_eq_getElem hk)⟩
theorem gO.get_none{U:Rn}{l l':List Value} (h:gO U l l'){k:Nat} (hv:l[k]? =none):l'[k]? =none:=by
 rw [List.getElem?_eq_none_iff]at*;rw [<-h.1];exact hv
theorem gO.append{U:Rn}{l l' m m':List Value} (h:gO U l l') (k:gO U m m'):gO U (l++m) (l'++m'):=by
 refine⟨by simp [h.1,k.1],fun j v v' a b=>?_⟩;by_cases hj:j<l.length
 ·rw [List.getElem?_append_left hj]at a
  rw [List.getElem?_append_left (by rw [<-h.1];exact hj)]at b;exact h.2 j v v' a b
 ·rw [List.getElem?_append_right (by omega)]at a
  rw [List.getElem?_append_right (by rw [<-h.1];omega),<-h.1]at b;exact k.2 _ v v' a b
theorem gO.take{U:Rn}{l l':List Value} (h:gO U l l') (n:Nat):gO U (l.take n) (l'.take n):=by
 refine⟨by simp [h.1],fun j v v' a b=>?_⟩;rw [List.getElem?_take]at a b;split at a
 ·rename_i hj;rw [if_pos hj]at b;exact h.2 j v v' a b
 ·simp at a
theorem gO.drop{U:Rn}{l l':List Value} (h:gO U l l') (n:Nat):gO U (l.drop n) (l'.drop n):=by
 refine⟨by simp [h.1],fun j v v' a b=>?_⟩;rw [List.getElem?_drop]at a b;exact h.2 _ v v' a b
theorem gO.splice{U:Rn}{l l' n n':List Value} (h:gO U l l') (k:gO U n n') (off:Nat):gO U (splice off n l) (splice off n' l'):=by
 unfold Am.splice;rw [<-k.1];exact((h.take off).append k).append (h.drop _)
theorem gO.flat{U:Rn}{l:List Value} (h:∀v∈l,cD v=true):gO U l l:=
 ⟨rfl,fun k v v' a b=>by rw [a]at b;injection b with b;subst b;exact .flat (h v (List.mem_of_getElem? a))⟩
theorem gO.flatten{U:Rn}{z z':List Value} (h:gO U z z') (n:Nat):gO U (List.replicate n z).flatten (List.replicate n z').flatten:=by
 induction n with
 | zero=>exact .nil U
 | succ n ih=>simp only [List.replicate_succ,List.flatten_cons];exact h.append ih
theorem VR.xK{U:Rn}{v:Value} (h:xK v=true):VR U v v:=by
 cases v<;>first
  | exact .flat h
  | (rename_i cs;exact .agg rfl (gO.flat (U:=U) (List.all_eq_true.1 h)).2)
theorem VR.of_flat{U:Rn}{v v':Value} (h:VR U v v') (hf:cD v=true):v'=v:=by
 cases h<;>first | rfl | simp [cD]at hf
theorem VR.FL{U:Rn}{a:Array Value}{v':Value} (h:VR U (.agg a) v'):∃a',v'= .agg a'/\gO U a.toList a'.toList:=by
 cases h with
 | flat h=>simp [cD]at h
 | agg ha h1=>exact⟨_,rfl,by simpa using ha,h1⟩
theorem VR.DW{U:Rn}{a:Array Value}{v':Value} (h:VR U (.tuple a) v'):∃a',v'= .tuple a'/\gO U a.toList a'.toList:=by
 cases h with
 | flat h=>simp [cD]at h
 | tuple ha h1=>exact⟨_,rfl,by simpa using ha,h1⟩
theorem VR.Eb{U:Rn}{a a':Array Value} (h:gO U a.toList a'.toList):VR U (.agg a) (.agg a'):= .agg (by simpa using h.1) h.2
theorem VR.uQ{U:Rn}{a a':Array Value} (h:gO U a.toList a'.toList):VR U (.tuple a) (.tuple a'):= .tuple (by simpa using h.1) h.2
theorem VR.oneCell{U:Rn}{v v':Value} (h:VR U v v') (ho:oneCell v=true):v'.oneCell'=true:=by
 cases h<;>first | rfl | (simp [Am.oneCell]at ho;done) | (rename_i h;revert ho;cases v<;>simp [Am.oneCell,Value.oneCell'])
section rel
variable (P:Program) (w0:World)
def RQ (n:Nat) (fz:Nat×Nat):Prop:=∀x,x<n->¬(fz.1<=x/\x<fz.2)
def Er (L:Loc) (cs:Array Value) (n:Nat) (fz:Nat×Nat) (e t:TypeId):CK->Prop
 | .ro=>cN P e=some L.m
 | .rs=>cN P e=some L.m/\∀j,j<n->¬(fz.1<=L.s+j/\L.s+j<fz.2)
 | .exact=>w0.heap.size<=L.b/\L.s=0/\cs.size=n/\RQ cs.size fz/\t=e
 | .grown _=>w0.heap.size<=L.b/\RQ cs.size fz/\L.e=cs.size/\cN P e=some L.m/\t=e
 | .stale=>w0.heap.size<=L.b/\cN P e=some L.m/\t=e
def aC6 (U:Rn) (e e':MapEntry):Prop:=e'.key=e.key/\xK e.key=true/\e'.born=e.born/\VR U e.val e'.val
def OL (U:Rn) (l l':List MapEntry):Prop:=l.length=l'.length/\∀(k:Nat) (e e':MapEntry),l[k]? =some e->l'[k]? =some e'->aC6 U e e'
def wG (U:Rn) (w:World) (i:Nat):fS->Prop
 | .dead=>True
 | .cells vs e k=>∃L cs t fz,U i=some L/\w.heap[L.b]? =some (.cells cs t fz)/\(∀(j:Nat) (v:Value),vs[j]? =some v->∃v',cs[L.s+j]? =some v'/\VR U v v')/\Er P w0 L cs vs.length fz e t k
 | .map es c=>∃L es',U i=some L/\w0.heap.size<=L.b/\w.heap[L.b]? =some (.map es' c)/\OL U es es'.toList
 | .loop tmps params assign body st pe=>∃L r,U i=some L/\w0.heap.size<=L.b/\w.heap[L.b]? =some (.loop r)/\r.state=st/\r.pending=pe/\r.params.toList=params/\r.assign=assign/\r.body=body/\Ia U tmps r.tmps.toList
 | .defers=>∃L,U i=some L/\w0.heap.size<=L.b/\w.heap[L.b]? =some (.deferred (some []))
 | .iter none _ _ _=>∃L a b c,(U i=some L/\L.s=0)/\w0.heap.size<=L.b/\w.heap[L.b]? =some (.mapIter none a b c)
 | .iter (some r) since seen last=>∃L M,(U i=some L/\L.s=0)/\w0.heap.size<=L.b/\U r=some M/\w.heap[L.b]? =some (.mapIter (some M.b) since ⟨seen⟩ last)
def fS.qK:fS->Bool
 | .dead=>true
 | _=>false
def fS.reads:fS->Bool
 | .cells _ _ .ro | .cells _ _ .stale | .cells _ _ .rs=>true
 | _=>false
def fS.olds:fS->List Nat
 | .cells _ _ (.grown l)=>l
 | _=>[]
def Ww (i j:Nat) (a b:fS):Prop:=(a.reads=true/\b.reads=true)\/j∈a.olds\/i∈b.olds
def Hv (U:Rn) (j:Nat) (vs:List Value) (i:Nat) (o:fS):Prop:=
 o= .dead\/∃ws e,o= .cells ws e .stale/\∀L M,U j=some L->U i=some M->M.b=L.b->M.s+ws.length<=L.s+vs.length
structure Rel (U:Rn) (Sz:St) (w:World):Prop where
 XQ:∀g,g<P.globals.size->∃L,U g=some L/\L.b=g/\L.s=0
 DU:∀i o,Sz.obj i=some o->wG P w0 U w i o
 dom:∀i,Sz.n<=i->U i=none
 lt:∀i o,Sz.obj i=some o->i<Sz.n
 loc:∀i L,U i=some L->L.b<w.heap.size
 sep:∀i j a b L M,i≠j->Sz.obj i=some a->Sz.obj j=some b->a.qK=false->b.qK=false->U i=some L->U j=some M->L.b=M.b->Ww i j a b
 old:∀j vs e olds,Sz.obj j=some (.cells vs e (.grown olds))->∀i∈olds,i<Sz.n/\∀o,Sz.obj i=some o->Hv U j vs i o
 base:Below w0.heap.size w0 w
end rel
theorem OL.mono{U U':Rn} (he:Ext U U'){l l':List MapEntry} (h:OL U l l'):OL U' l l':=
 ⟨h.1,fun k e e' a b=>let⟨x,y,z,u⟩:=h.2 k e e' a b;⟨x,y,z,u.mono he⟩⟩
theorem wG.frame{P:Program}{w0:World}{U U':Rn}{w w':World}{i:Nat}{o:fS} (he:Ext U U') (hb:∀L,U i=some L->w'.heap[L.b]? =w.heap[L.b]?) (h:wG P w0 U w i o):wG P w0 U' w' i o:=by
 cases o with
 | dead=>trivial
 | cells vs e k=>
  obtain⟨L,cs,t,fz,h1,h2,h3,h4⟩:=h;exact⟨L,cs,t,fz,he _ _ h1,(hb L h1).trans h2,fun j v hj=>let⟨v',a,b⟩:=h3 j v hj;⟨v',a,b.mono he⟩,h4⟩
 | map es c=>
  obtain⟨L,es',h1,h2,h3,h4⟩:=h;exact⟨L,es',he _ _ h1,h2,(hb L h1).trans h3,h4.mono he⟩
 | loop tmps params assign body st pe=>
  obtain⟨L,r,h1,h2,h3,h4,h5,h6,h7,h8,h9⟩:=h;exact⟨L,r,he _ _ h1,h2,(hb L h1).trans h3,h4,h5,h6,h7,h8,h9.mono he⟩
 | defers=>
  obtain⟨L,h1,h2,h3⟩:=h;exact⟨L,he _ _ h1,h2,(hb L h1).trans h3⟩
 | iter m since seen last=>
  cases m with
  | none=>obtain⟨L,a,b,c,h1,h2,h3⟩:=h;exact⟨L,a,b,c,⟨he _ _ h1.1,h1.2⟩,h2,(hb L h1.1).trans h3⟩
  | some r=>obtain⟨L,M,h1,h2,h3,h4⟩:=h;exact⟨L,M,⟨he _ _ h1.1,h1.2⟩,h2,he _ _ h3,(hb L h1.1).trans h4⟩
theorem wG.loc{P:Program}{w0:World}{U:Rn}{w:World}{i:Nat}{o:fS} (h:wG P w0 U w i o) (hd:o.qK=false):∃L,U i=some L:=by
 cases o with
 | dead=>cases hd
 | cells vs e k=>obtain⟨L,_,_,_,h1,_⟩:=h;exact⟨L,h1⟩
 | map es c=>obtain⟨L,_,h1,_⟩:=h;exact⟨L,h1⟩
 | loop _ _ _ _ _ _=>obtain⟨L,_,h1,_⟩:=h;exact⟨L,h1⟩
 | defers=>obtain⟨L,h1,_⟩:=h;exact⟨L,h1⟩
 | iter m since seen last=>cases m with
  | none=>obtain⟨L,_,_,_,h1,_⟩:=h;exact⟨L,h1.1⟩
  | some r=>obtain⟨L,_,h1,_⟩:=h;exact⟨L,h1.1⟩
def Fr (U:Rn) (w w':World):Prop:=w.heap.size<=w'.heap.size/\∀c,c<w.heap.size->(∀i L,U i=some L->L.b≠c)->w'.heap[c]? =w.heap[c]?
def Nw (U U':Rn) (w:World):Prop:=∀i L,U' i=some L->U i=some L\/w.heap.size<=L.b\/∃j M,U j=some M/\M.b=L.b
structure Stp (U:Rn) (w:World) (U':Rn) (w':World):Prop where
 ext:Ext U U'
 fr:Fr U w w'
 nw:Nw U U' w
theorem Stp.refl (U:Rn) (w:World):Stp U w U w:=⟨.refl U,⟨Nat.le_refl _,fun _ _ _=>rfl⟩,fun _ _ h=> .inl h⟩
theorem Stp.trans{U U1 U2:Rn}{w w1 w2:World} (h:Stp U w U1 w1) (k:Stp U1 w1 U2 w2):Stp U w U2 w2:=by
 refine⟨h.ext.trans k.ext,⟨Nat.le_trans h.fr.1 k.fr.1,fun c hc hn=>?_⟩,fun i L hi=>?_⟩
 ·rw [k.fr.2 c (Nat.lt_of_lt_of_le hc h.fr.1) (fun i L hi=>?_),h.fr.2 c hc hn]
  rcases h.nw i L hi with h1 | h1 | ⟨j,M,h1,h2⟩
  ·exact hn i L h1
  ·omega
  ·rw [<-h2];exact hn j M h1
 ·rcases k.nw i L hi with h1 | h1 | ⟨j,M,h1,h2⟩
  ·exact h.nw i L h1
  ·exact .inr (.inl (Nat.le_trans h.fr.1 h1))
  ·rcases h.nw j M h1 with h3 | h3 | ⟨q,N,h3,h4⟩
   ·exact .inr (.inr ⟨j,M,h3,h2⟩)
   ·exact .inr (.inl (by omega))
   ·exact .inr (.inr ⟨q,N,h3,by omega⟩)
def Rn.put (U:Rn) (i:Nat) (L:Loc):Rn:=fun j=>if j=i then some L else U j
theorem Rn.CC{U:Rn}{i:Nat}{L:Loc} (h:U i=none):Ext U (U.put i L):=fun j M hj=>by
 unfold Rn.put;by_cases e:j=i
 ·subst e;rw [h]at hj;cases hj
 ·rw [if_neg e];exact hj
theorem Rn.iV (U:Rn) (i:Nat) (L:Loc):U.put i L i=some L:=if_pos rfl
section upd
variable{P:Program}{w0:World}{U:Rn}{Sz:St}{w:World}
theorem Rel.new (h:Rel P w0 U Sz w) (o:fS) (ob:Obj) (L:Loc) (hL:L.b=w.heap.size)
 (ho:∀U':Rn,Ext U U'->U' Sz.n=some L->wG P w0 U' (w.alloc ob) Sz.n o)
 (hold:∀i∈o.olds,i<Sz.n/\∀x,Sz.obj i=some x->x= .dead\/∃ws e,x= .cells ws e .stale):
 Rel P w0 (U.put Sz.n L) (Sz.new o) (w.alloc ob)/\Stp U w (U.put Sz.n L) (w.alloc ob):=by
 have hnone:=h.dom Sz.n (Nat.le_refl _);have he:Ext U (U.put Sz.n L):=Rn.CC hnone;have hold:∀k,k<w.heap.size->(w.alloc ob).heap[k]? =w.heap[k]? :=fun k hk=>by show(w.heap.push ob)[k]? =_;rw [Array.getElem?_push,if_neg (by omega)]
 have hsz:(w.alloc ob).heap.size=w.heap.size+1:=Array.size_push _
 have hput:∀j M,U.put Sz.n L j=some M->(j=Sz.n/\M=L)\/(j≠Sz.n/\U j=some M):=fun j M hj=>by
  unfold Rn.put at hj;by_cases e:j=Sz.n
  ·rw [if_pos e]at hj;injection hj with hj;exact .inl ⟨e,hj.symm⟩
  ·rw [if_neg e]at hj;exact .inr ⟨e,hj⟩
 have lK:∀j x,(Sz.new o).obj j=some x->(j=Sz.n/\x=o)\/(j≠Sz.n/\Sz.obj j=some x):=fun j x hx=>by
  rw [FO]at hx;by_cases e:j=Sz.n
  ·rw [if_pos e]at hx;injection hx with hx;exact .inl ⟨e,hx.symm⟩
  ·rw [if_neg e]at hx;exact .inr ⟨e,hx⟩
 refine⟨⟨fun g hg=>let⟨M,h1,h2⟩:=h.XQ g hg;⟨M,he _ _ h1,h2⟩,fun j x hx=>?_,fun j hj=>?_,fun j x hx=>?_,fun j M hj=>?_,fun i j a b M N hij ha hb hda hdb hM hN OK=>?_,fun j vs e olds hj i hi=>?_,?_⟩,he,⟨by omega,fun c hc _=>hold c hc⟩,fun j M hj=>?_⟩
 ·rcases lK j x hx with ⟨e,ex⟩ | ⟨e,hx⟩
  ·subst e ex;exact ho _ he (Rn.iV _ _ _)
  ·exact(h.DU j x hx).frame he fun M hM=>hold _ (h.loc j M hM)
 ·have hj':Sz.n+1<=j:=hj
  unfold Rn.put;rw [if_neg (by omega)];exact h.dom j (by omega)
 ·rcases lK j x hx with ⟨e,_⟩ | ⟨_,hx⟩
  ·subst e;exact Nat.lt_succ_self _
  ·exact Nat.lt_succ_of_lt (h.lt j x hx)
 ·rcases hput j M hj with ⟨_,e⟩ | ⟨_,hM⟩
  ·subst e;omega
  ·have:=h.loc j M hM;omega
 ·rcases hput i M hM with ⟨ei,eM⟩ | ⟨ei,hM'⟩<;>rcases hput j N hN with ⟨ej,eN⟩ | ⟨ej,hN'⟩
  ·omega
  ·have:=h.loc j N hN';rw [eM]at OK;omega
  ·have:=h.loc i M hM';rw [eN]at OK;omega
  ·rcases lK i a ha with ⟨e,_⟩ | ⟨_,ha'⟩
   ·exact absurd e ei
   ·rcases lK j b hb with ⟨e,_⟩ | ⟨_,hb'⟩
    ·exact absurd e ej
    ·exact h.sep i j a b M N hij ha' hb' hda hdb hM' hN' OK
 ·rcases lK j _ hj with ⟨e1,e2⟩ | ⟨e1,hj'⟩
  ·subst e1 e2
   obtain⟨h1,h2⟩:=hold i hi;refine⟨Nat.lt_succ_of_lt h1,fun x hx=>?_⟩;rcases lK i x hx with ⟨e3,_⟩ | ⟨_,hx'⟩
   ·omega
   ·rcases h2 x hx' with h3 | ⟨ws,e',h3⟩
    ·exact .inl h3
    ·refine .inr ⟨ws,e',h3,fun L1 M hL1 hM hb=>?_⟩
     rcases hput _ _ hL1 with ⟨_,e4⟩ | ⟨e4,_⟩
     ·rcases hput _ _ hM with ⟨e5,_⟩ | ⟨_,hM'⟩
      ·omega
      ·have:=h.loc i M hM';rw [e4]at hb;omega
     ·exact absurd rfl e4
  ·obtain⟨h1,h2⟩:=h.old j vs e olds hj' i hi
   refine⟨Nat.lt_succ_of_lt h1,fun x hx=>?_⟩;rcases lK i x hx with ⟨e3,_⟩ | ⟨e3,hx'⟩
   ·omega
   ·rcases h2 x hx' with h3 | ⟨ws,e',h3,h4⟩
    ·exact .inl h3
    ·refine .inr ⟨ws,e',h3,fun L1 M hL1 hM hb=>?_⟩
     rcases hput _ _ hL1 with ⟨e4,_⟩ | ⟨_,hL1'⟩
     ·exact absurd e4 e1
     ·rcases hput _ _ hM with ⟨e5,_⟩ | ⟨_,hM'⟩
      ·exact absurd e5 e3
      ·exact h4 L1 M hL1' hM' hb
 ·exact⟨h.base.os,h.base.tape,h.base.output,by have:=h.base.size;omega,fun k hk=>(hold k (Nat.lt_of_lt_of_le hk h.base.size)).trans (h.base.block k hk)⟩
 ·rcases hput j M hj with ⟨_,e⟩ | ⟨_,hM⟩
  ·subst e;exact .inr (.inl (by omega))
  ·exact .inl hM
theorem Rel.drew (h:Rel P w0 U Sz w):Rel P w0 U Sz w.drew:=
 ⟨h.XQ,fun i o hi=>(h.DU i o hi).frame (.refl U) fun _ _=>rfl,h.dom,h.lt,h.loc,h.sep,h.old,h.base.os,h.base.tape,h.base.output,h.base.size,h.base.block⟩
theorem Stp.drew (U:Rn) (w:World):Stp U w U w.drew:=⟨.refl U,⟨Nat.le_refl _,fun _ _ _=>rfl⟩,fun _ _ h=> .inl h⟩
theorem Rel.upd (h:Rel P w0 U Sz w){S':St}{w':World}{b:Nat} (hb:w0.heap.size<=b) (hin:∃i L,U i=some L/\L.b=b) (hn:S'.n=Sz.n)
 (hsz:w'.heap.size=w.heap.size) (hother:∀c,c≠b->w'.heap[c]? =w.heap[c]?) (hos:w'.os=w.os) (htape:w'.tape=w.tape) (hout:w'.output=w.output)
 (lK:∀j x,S'.obj j=some x->(x.qK=true/\j<Sz.n)\/(Sz.obj j=some x/\∀L,U j=some L->L.b≠b)\/(j<Sz.n/\wG P w0 U w' j x))
 (hsep:∀i j x y L M,i≠j->S'.obj i=some x->S'.obj j=some y->x.qK=false->y.qK=false->U i=some L->U j=some M->L.b=M.b->Ww i j x y)
 (hold:∀j vs e olds,S'.obj j=some (.cells vs e (.grown olds))->∀i∈olds,i<Sz.n/\∀o,S'.obj i=some o->Hv U j vs i o):
 Rel P w0 U S' w'/\Stp U w U w':=by
 refine⟨⟨h.XQ,fun j x hx=>?_,fun j hj=>h.dom j (by omega),fun j x hx=>?_,fun j L hj=>by rw [hsz];exact h.loc j L hj,hsep,fun j vs e olds hj i hi=>by rw [hn];exact hold j vs e olds hj i hi,?_⟩,.refl U,⟨by omega,fun c _ hc=>?_⟩,fun _ _ h=> .inl h⟩
 ·rcases lK j x hx with ⟨hd,_⟩ | ⟨hx',hL⟩ | ⟨_,hr⟩
  ·cases x<;>simp [fS.qK]at hd;trivial
  ·exact(h.DU j x hx').frame (.refl U) fun L hL'=>hother _ (hL L hL')
  ·exact hr
 ·rw [hn]
  rcases lK j x hx with ⟨_,hl⟩ | ⟨hx',_⟩ | ⟨hl,_⟩
  ·exact hl
  ·exact h.lt j x hx'
  ·exact hl
 ·exact⟨hos.trans h.base.os,htape.trans h.base.tape,hout.trans h.base.output,by have:=h.base.size;omega,fun k hk=>(hother k (by omega)).trans (h.base.block k hk)⟩
 ·obtain⟨i,L,hi,e⟩:=hin
  exact hother c (fun e'=>hc i L hi (by omega))
end upd
theorem KZ (s:ByteArray):s.toList=s.data.toList:=by
 have h:∀(n i:Nat) (r:List UInt8),s.size-i=n->ByteArray.toList.loop s i r=r.reverse++s.data.toList.drop i:=by
  intro n;induction n with
  | zero=>
   intro i r hn;unfold ByteArray.toList.loop;have:¬i<s.size:=by omega
   rw [if_neg this,List.drop_eq_nil_of_le (by show s.data.toList.length<=i;have:s.size=s.data.toList.length:=rfl;omega),List.append_nil]
  | succ n ih=>
   intro i r hn;unfold ByteArray.toList.loop;have hi:i<s.size:=by omega
   rw [if_pos hi,ih (i+1) _ (by omega)];have hl:i<s.data.toList.length:=hi;rw [List.drop_eq_getElem_cons hl];have e:s.data[i]! =s.data.toList[i]:=by rw [getElem!_pos s.data i hi];rfl
   simp [ByteArray.get!,e]
 have:=h s.size 0 [] (by omega);simpa [ByteArray.toList]using this
section num
variable{K:Value->Bool}
theorem ND (x y:Int):Mg x y=decide (x<y):=by
 cases x<;>cases y<;>simp only [Mg,Nat.blt]<;>(rw [Bool.eq_iff_iff];simp only [decide_eq_true_eq,Nat.ble_eq];(try simp);omega)
theorem rL (x y:Int):RK x y=(x==y):=by
 cases x<;>cases y<;>simp only [RK]<;>(rw [Bool.eq_iff_iff];simp only [Nat.beq_eq,beq_iff_eq];(try simp);try omega)
theorem FT{j k:IntKind} (h:oM j k=true):j=k:=by cases j<;>cases k<;>first | rfl | (simp [oM]at h)
theorem wrap_in (k:IntKind) (n:Int) (h0:k.min<=n) (h1:n<=k.max):k.wrap n=n:=by
 cases k<;>simp [IntKind.min,IntKind.max,IntKind.bits,IntKind.signed]at h0 h1<;>simp [IntKind.wrap,IntKind.bits,IntKind.signed]<;>omega
theorem uO (k:IntKind) (n:Int):xL k n=k.wrap n:=by
 have hb:∀m c:Nat,Nat.blt m c=true->m<c:=fun m c h=>Nat.le_of_ble_eq_true h;have e1:IntKind.i64.min= -9223372036854775808:=by decide
 have e2:IntKind.i64.max=9223372036854775807:=by decide
 have e3:IntKind.u64.min=0:=by decide
 have e4:IntKind.u64.max=18446744073709551615:=by decide
 have e5:IntKind.u8.min=0:=by decide
 have e6:IntKind.u8.max=255:=by decide
 cases k
 case i64=>
  cases n with
  | ofNat m=>
   unfold xL;dsimp only;split
   ·rename_i h;have:=hb _ _ h;exact(wrap_in .i64 (m:Int) (by omega) (by omega)).symm
   ·rfl
  | negSucc m=>
   unfold xL;dsimp only;split
   ·rename_i h;have:=hb _ _ h;exact(wrap_in .i64 (Int.negSucc m) (by omega) (by omega)).symm
   ·rfl
 case u64=>
  cases n with
  | ofNat m=>
   unfold xL;dsimp only;split
   ·rename_i h;have:=hb _ _ h;exact(wrap_in .u64 (m:Int) (by omega) (by omega)).symm
   ·rfl
  | negSucc m=>rfl
 case u8=>
  cases n with
  | ofNat m=>
   unfold xL;dsimp only;split
   ·rename_i h;have:=hb _ _ h;exact(wrap_in .u8 (m:Int) (by omega) (by omega)).symm
   ·rfl
  | negSucc m=>rfl
 all_goals rfl
theorem Ez (k:IntKind) (n:Int):tD k n K=K (.int k (k.wrap n)):=by simp [tD,iO,uO]
theorem lE (b:Bool):nG b K=K (.bool b):=by simp [nG,nH]
theorem Be{op:BinOp}{k:IntKind}{x y:Int} (h:sS op k x y K=true):
 ∃v,K v=true/\cD v=true/\op≠ .shl/\op≠ .shr/\∀(P:Program) (t:TypeId) (w:World),(binOp op t (.int k x) (.int k y)).run P w= .ok v w:=by
 have ea:∀a b:Int,Int.add a b=a+b:=fun _ _=>rfl;have es:∀a b:Int,Int.sub a b=a-b:=fun _ _=>rfl;have em:∀a b:Int,Int.mul a b=a*b:=fun _ _=>rfl;cases op<;>simp only [sS,Ez,lE,iO,ND,rL,ea,es,em]at h
 case quo=>
  split at h
  ·cases h
  ·rename_i hy
   have hy':y≠0:=by simpa using hy
   exact⟨_,h,rfl,by simp,by simp,fun P t w=>by simp [binOp,Op.intDiv,hy']⟩
 case rem=>
  split at h
  ·cases h
  ·rename_i hy
   have hy':y≠0:=by simpa using hy
   exact⟨_,h,rfl,by simp,by simp,fun P t w=>by simp [binOp,Op.intDiv,hy']⟩
 all_goals first
  | cases h;done
  | exact⟨_,h,rfl,by simp,by simp,fun P t w=>by first | (simp [binOp,Op.intArith,Op.intBits,Op.intCmp,bne];done) | (simp [binOp,Op.intCmp];rw [Bool.eq_iff_iff];simp)⟩
theorem OW{op:BinOp}{k k':IntKind}{x y:Int} (h:Mh op k x y K=true):
 ∃v,K v=true/\cD v=true/\∀(P:Program) (t:TypeId) (w:World),(binOp op t (.int k x) (.int k' y)).run P w= .ok v w:=by
 unfold Mh at h;rw [ND]at h;split at h
 ·cases h
 ·rename_i hy
  have hy':¬y<0:=by simpa using hy
  cases op<;>simp only [Ez,iO]at h<;>first
   | cases h;done
   | exact⟨_,h,rfl,fun P t w=>by simp [binOp,Op.shift,hy']⟩
end num
section str
variable{K:Value->Bool}
theorem LA (a b:UInt8):Nat.beq a.toNat b.toNat=true↔a=b:=by
 rw [Nat.beq_eq];exact⟨fun h=>UInt8.toNat_inj.1 h,fun h=>by rw [h]⟩
theorem FU (a b:List UInt8):VD a b=(a==b):=by
 induction a generalizing b with
 | nil=>cases b<;>rfl
 | cons x a ih=>
  cases b with
  | nil=>rfl
  | cons y b=>
   show(match Nat.beq x.toNat y.toNat with | true=>VD a b | false=>false)=_;cases h:Nat.beq x.toNat y.toNat with
   | true=>simp only [ih];have:=(LA x y).1 h;subst this;simp
   | false=>
    have:x≠y:=fun e=>by rw [(LA x y).2 e]at h;cases h
    simp [this]
theorem aBk (a b:List UInt8):Sk a b=Op.bytesLess a b:=by
 induction a generalizing b with
 | nil=>cases b<;>rfl
 | cons x a ih=>
  cases b with
  | nil=>rfl
  | cons y b=>
   show(match Nat.blt x.toNat y.toNat with | true=>true | false=>match Nat.beq x.toNat y.toNat with | true=>Sk a b | false=>false)=_;simp only [Op.bytesLess];cases h:Nat.blt x.toNat y.toNat with
   | true=>
    have:x<y:=by rw [UInt8.lt_iff_toNat_lt];have:=Nat.le_of_ble_eq_true h;omega
    simp [this]
   | false=>
    have:¬x<y:=by
     rw [UInt8.lt_iff_toNat_lt];intro hh;have:Nat.blt x.toNat y.toNat=true:=Nat.ble_eq_true_of_le hh;rw [this]at h;cases h
    cases h2:Nat.beq x.toNat y.toNat with
    | true=>have e:=(LA x y).1 h2;subst e;simp [ih]
    | false=>
     have e:x≠y:=fun e=>by rw [(LA x y).2 e]at h2;cases h2
     simp [this,e]
theorem Te (a b:ByteArray):a++b=⟨⟨a.data.toList++b.data.toList⟩⟩:=by
 apply ByteArray.ext;apply Array.toList_inj.1;simp
theorem Bf{op:BinOp}{x y:ByteArray} (h:Dx op x y K=true):
 ∃v,K v=true/\cD v=true/\∀(P:Program) (t:TypeId) (w:World),(binOp op t (.string x) (.string y)).run P w= .ok v w:=by
 cases op<;>simp only [Dx,lE,FU,aBk]at h
 case add=>
  simp only [cV]at h;split at h
  ·rename_i hb
   rw [mV]at h;have hlt:x.size+y.size<9223372036854775808:=by have:=Nat.le_of_ble_eq_true hb;have e1:x.size=x.data.toList.length:=rfl;have e2:y.size=y.data.toList.length:=rfl;omega
   refine⟨_,h,rfl,fun P t w=>?_⟩;simp [binOp,Op.stringOp,Te];omega
  ·cases h
 all_goals first
  | cases h;done
  | exact⟨_,h,rfl,fun P t w=>by simp [binOp,Op.stringOp,KZ]⟩
end str
theorem iC (b off n:Nat):(⟨b,off,none⟩:Addr).add n=⟨b,off+n,none⟩:=by
 unfold Addr.add;split
 ·rename_i h;subst h;rfl
 ·rfl
section run
variable{P:Program}{w:World}
theorem run_loadCellsFrom (a:Addr):∀(m:List Value) (i:Nat) (acc:Array Value),(∀(j:Nat) (v:Value),m[j]? =some v->w.cell? (a.add (i+j))=some v)->
 (loadCellsFrom a i m.length acc).run P w= .ok (acc++m.toArray) w:=by
 intro m;induction m with
 | nil=>intro i acc _;simp [loadCellsFrom]
 | cons v m ih=>
  intro i acc h;have h0:=h 0 v rfl;rw [Nat.add_zero]at h0
  have h1:=ih (i+1) (acc.push v) fun j x hj=>by
   have:=h (j+1) x (by simpa using hj)
   rwa [show i+(j+1)=i+1+j by omega]at this
  simp [loadCellsFrom,h0,h1]
theorem run_loadCells (a:Addr) (m:List Value){n:Nat} (hn:m.length=n) (h:∀(j:Nat) (v:Value),m[j]? =some v->w.cell? (a.add j)=some v):
 (loadCells a n).run P w= .ok ⟨m⟩ w:=by
 subst hn;have:=run_loadCellsFrom (P:=P) a m 0 #[] (by simpa using h);simpa [loadCells]using this
theorem Iy{b off:Nat}{cs:Array Value}{t:TypeId}{fz:Nat×Nat} (h:w.heap[b]? =some (.cells cs t fz)) (v:Value):
 w.setCell ⟨b,off,none⟩ v=w.putObj b (.cells (cs.setIfInBounds off v) t fz):=by
 unfold World.setCell World.putObj
 congr 1
 apply Array.ext_getElem?;intro k;rw [Array.getElem?_modify,Array.getElem?_setIfInBounds];by_cases e:b=k
 ·subst e
  obtain⟨hlt,hb⟩:=Array.getElem?_eq_some_iff.1 h;simp [hb,hlt]
 ·simp [e]
theorem Bi (b:Nat) (x y:Obj):(w.putObj b x).putObj b y=w.putObj b y:=by
 unfold World.putObj
 congr 1
 apply Array.ext_getElem?;intro k;simp only [Array.getElem?_setIfInBounds,Array.size_setIfInBounds];by_cases e:b=k<;>simp [e]
theorem IT{b:Nat}{x:Obj} (h:w.heap[b]? =some x):w.putObj b x=w:=by
 unfold World.putObj
 have:w.heap.setIfInBounds b x=w.heap:=by
  apply Array.ext_getElem?;intro k;rw [Array.getElem?_setIfInBounds];by_cases e:b=k
  ·subst e
   obtain⟨hlt,hb⟩:=Array.getElem?_eq_some_iff.1 h;simp [hb,hlt]
  ·simp [e]
 rw [this]
theorem NC{b:Nat}{x y:Obj} (h:w.heap[b]? =some y):(w.putObj b x).heap[b]? =some x:=World.putObj_heap_same (Array.getElem?_eq_some_iff.1 h).1
theorem uP{b c:Nat}{x:Obj} (h:c≠b):(w.putObj b x).heap[c]? =w.heap[c]? :=World.putObj_heap_other h
theorem putObj_size (b:Nat) (x:Obj):(w.putObj b x).heap.size=w.heap.size:=by simp [World.putObj]
theorem AO:∀(new:List Value) (w:World) (b off i:Nat) (cs:Array Value) (t:TypeId) (fz:Nat×Nat),w.heap[b]? =some (.cells cs t fz)->off+i+new.length<=cs.size->
 (∀x,off+i<=x->x<off+i+new.length->¬(fz.1<=x/\x<fz.2))->(∀v∈new,v.oneCell'=true)->
 (storeCells ⟨b,off,none⟩ new i).run P w= .ok () (w.putObj b (.cells ⟨splice (off+i) new cs.toList⟩ t fz)):=by
 intro new;induction new with
 | nil=>
  intro w b off i cs t fz h hs _ _;have e:splice (off+i) [] cs.toList=cs.toList:=by simp [splice]
  rw [e];simp [storeCells,IT h]
 | cons v new ih=>
  intro w b off i cs t fz h hs hfz h1;have hlt:off+i<cs.size:=by simp at hs;omega
  have hc:w.cell? ⟨b,off+i,none⟩=some cs[off+i]:=by simp [World.cell?,h,hlt]
  have hf:w.frozen? ⟨b,off+i,none⟩=false:=by
   have:=hfz (off+i) (Nat.le_refl _) (by simp);simp only [World.frozen?,h];simpa using this
  have hrun:(store (⟨b,off+i,none⟩:Addr) v).run P w= .ok () (w.putObj b (.cells (cs.setIfInBounds (off+i) v) t fz)):=by
   rw [run_store P w _ v .plain (h1 v (by simp)),hc,hf,Iy h];rfl
  have hih:=ih (w.putObj b (.cells (cs.setIfInBounds (off+i) v) t fz)) b off (i+1) (cs.setIfInBounds (off+i) v) t fz (NC h)
   (by simp at hs ⊢;omega) (fun x hx hy=>hfz x (by omega) (by simp;omega)) (fun u hu=>h1 u (by simp [hu]))
  have es:splice (off+(i+1)) new (cs.setIfInBounds (off+i) v).toList=splice (off+i) (v::new) cs.toList:=by
   apply List.ext_getElem?;intro j;have hl:cs.toList.length=cs.size:=rfl;rw [oN _ _ _ (by simp at hs ⊢;omega),oN _ _ _ (by simp at hs ⊢;omega)];simp only [Array.toList_setIfInBounds,List.length_cons];by_cases h2:j=off+i
   ·subst h2
    rw [if_neg (by omega),if_pos (by omega),Nat.sub_self];simp [hlt]
   ·by_cases h3:off+(i+1)<=j/\j<off+(i+1)+new.length
    ·rw [if_pos h3,if_pos (by omega)]
     obtain⟨q,rfl⟩:∃q,j=off+i+(q+1):=⟨j-(off+i+1),by omega⟩;rw [show off+i+(q+1)-(off+(i+1))=q by omega,show off+i+(q+1)-(off+i)=q+1 by omega];simp
    ·rw [if_neg h3,if_neg (by omega),List.getElem?_set_ne (by omega)]
  simp only [storeCells,iC];rw [Sem.run_bind,hrun,Result.andThen_ok,hih,Bi,es]
end run
section mem
variable{P:Program}{w0:World}{U:Rn}{Sz:St}{w:World}
theorem Rel.cells (h:Rel P w0 U Sz w){i:Nat}{vs:List Value}{e:TypeId}{k:CK} (ho:Sz.obj i=some (.cells vs e k)){L:Loc} (hL:U i=some L):
 ∃cs t fz,w.heap[L.b]? =some (.cells cs t fz)/\(∀(j:Nat) (v:Value),vs[j]? =some v->∃v',cs[L.s+j]? =some v'/\VR U v v')/\Er P w0 L cs vs.length fz e t k:=by
 obtain⟨M,cs,t,fz,h1,h2,h3,h4⟩:=h.DU i _ ho;rw [hL]at h1;injection h1 with h1;subst h1;exact⟨cs,t,fz,h2,h3,h4⟩
theorem cell_of{b:Nat}{cs:Array Value}{t:TypeId}{fz:Nat×Nat} (h:w.heap[b]? =some (.cells cs t fz)){j:Nat}{v:Value} (hj:cs[j]? =some v):w.cell? ⟨b,j,none⟩=some v:=by
 simp [World.cell?,h,hj]
theorem Rel.wF (h:Rel P w0 U Sz w){i:Nat}{vs:List Value}{e:TypeId}{k:CK} (ho:Sz.obj i=some (.cells vs e k)){L:Loc} (hL:U i=some L){off n:Nat} (hn:off+n<=vs.length):
 ∃l',gO U ((vs.drop off).take n) l'/\l'.length=n/\∀(j:Nat) (v:Value),l'[j]? =some v->w.cell? ((⟨L.b,L.s+off,none⟩:Addr).add j)=some v:=by
 obtain⟨cs,t,fz,h2,h3,_⟩:=h.cells ho hL;refine⟨(List.range n).map fun j=>cs.getD (L.s+(off+j)) undef,⟨by simp;omega,fun j v v' a b=>?_⟩,by simp,fun j v hj=>?_⟩
 ·rw [List.getElem?_take]at a
  split at a
  ·rename_i hj
   rw [List.getElem?_drop]at a;obtain⟨u,hu,hr⟩:=h3 _ v a;simp [hj]at b;have:cs.getD (L.s+(off+j)) undef=u:=by simp [Array.getD_eq_getD_getElem?,hu]
   simp [Array.getD_eq_getD_getElem?]at this;rw [<-b,this];exact hr
  ·cases a
 ·have hj':j<n:=by have:=(List.getElem?_eq_some_iff.1 hj).1;simpa using this
  simp [hj']at hj;have hlt:off+j<vs.length:=by omega
  obtain⟨u,hu,_⟩:=h3 (off+j) vs[off+j] (List.getElem?_eq_getElem hlt);rw [iC,show L.s+off+j=L.s+(off+j)by omega];rw [cell_of h2 hu]
  congr 1
  rw [<-hj];simp [hu]
theorem Rel.Iz (h:Rel P w0 U Sz w){i:Nat}{vs:List Value}{e:TypeId}{k:CK} (ho:Sz.obj i=some (.cells vs e k)){L:Loc} (hL:U i=some L){o:Nat}{v:Value} (hv:vs[o]? =some v):
 ∃v',w.cell? ⟨L.b,L.s+o,none⟩=some v'/\VR U v v':=by
 obtain⟨cs,t,fz,h2,h3,_⟩:=h.cells ho hL;obtain⟨u,hu,hr⟩:=h3 o v hv;exact⟨u,cell_of h2 hu,hr⟩
theorem AN{t:TypeId}{b:Bool} (h:yN P t=some b) (w:World):(isAgg t).run P w= .ok b w:=by
 unfold yN at h;cases hu:P.underlying t with
 | none=>simp [hu]at h
 | some d=>
  simp [hu]at h;simp only [isAgg,Sem.run_bind,run_underlying hu,Result.andThen_ok];subst h;cases d<;>rfl
theorem fU{t:TypeId}{n:Nat} (h:cN P t=some n) (w:World):(sizeOf t).run P w= .ok n w:=by
 unfold cN at h;cases hu:P.info? t with
 | none=>simp [hu]at h
 | some i=>simp [hu]at h;simp [sizeOf,typeInfo,hu,h]
theorem wD{t:TypeId}{z:List Value} (h:BX P t=some z) (w:World):∃v,(zeroValue t).run P w= .ok v w/\v.cells.toList=z:=by
 unfold BX at h;cases hu:P.info? t with
 | none=>simp [hu]at h
 | some i=>
  cases hz:i.zero with
  | none=>simp [hu,hz]at h
  | some v=>simp [hu,hz]at h;exact⟨v,by simp [zeroValue,typeInfo,hu,hz],h⟩
theorem IJ (h:Rel P w0 U Sz w){t:TypeId}{a a':Value}{K:VK} (hk:MA P t a Sz K=true) (ha:VR U a a'):
 ∃v v',K v Sz=true/\VR U v v'/\(Instr.loadAt t a').run P w= .ok v' w:=by
 unfold MA at hk;split at hk
 ·rename_i i o
  cases ha with
  | flat h=>simp [cD]at h
  | ptr hL=>
   rename_i L;split at hk
   ·rename_i hagg
    obtain⟨vs,e,c,ho,hk⟩:=kX hk;obtain⟨v,hv,hk⟩:=DS hk;obtain⟨v',hc,hr⟩:=h.Iz ho hL hv;refine⟨v,v',hk,hr,?_⟩;simp [Instr.loadAt,Instr.sureAddr,loadVar,AN hagg,hc]
   ·rename_i hagg
    split at hk
    ·rename_i n hsz
     obtain⟨vs,e,c,ho,hn,hk⟩:=wE hk;obtain⟨l',hr,hl,hc⟩:=h.wF ho hL hn;refine⟨_,.agg ⟨l'⟩,hk,.Eb hr,?_⟩;simp [Instr.loadAt,Instr.sureAddr,loadVar,AN hagg,fU hsz,run_loadCells _ l' hl hc]
    ·cases hk
   ·cases hk
 ·cases hk
end mem
section mem
variable{P:Program}{w0:World}{U:Rn}{Sz:St}{w:World}
theorem Cs:∀{new l:List Value},asIs new l=true->(∀v∈new,cD v=true)/\∀(j:Nat) (v:Value),new[j]? =some v->l[j]? =some v:=by
 intro new;induction new with
 | nil=>intro l _;exact⟨by simp,by simp⟩
 | cons a new ih=>
  intro l h;unfold asIs at h;rw [cE]at h;cases l with
  | nil=>cases h
  | cons b t=>
   have h2:(match(generalizing:=false) a,b with
    | .int j x,.int k y=>match oM j k with
     | true=>match RK x y with | true=>asIs new t | false=>false
     | false=>false
    | _,_=>false)=true:=h
   split at h2
   ·split at h2
    ·rename_i hk
     split at h2
     ·rename_i hx
      have e1:=FT hk;rw [rL]at hx;have e2:=eq_of_beq hx;subst e1 e2;have h:asIs new t=true:=h2;obtain⟨i1,i2⟩:=ih h;refine⟨fun v hv=>?_,fun j v hj=>?_⟩
      ·rcases List.mem_cons.1 hv with e | hv
       ·subst e;rfl
       ·exact i1 v hv
      ·cases j with
       | zero=>simpa using hj
       | succ j=>simpa using i2 j v (by simpa using hj)
     ·cases h2
    ·cases h2
   ·cases h2
theorem kP (h:Rel P w0 U Sz w){i off:Nat}{new new':List Value}{k:St->Bool} (hk:eX Sz i off new k=true){L:Loc} (hL:U i=some L)
 (hn:gO U new new') (h1:∀v∈new',v.oneCell'=true):
 ∃S' w',k S'=true/\Rel P w0 U S' w'/\Stp U w U w'/\(storeCells ⟨L.b,L.s+off,none⟩ new').run P w= .ok () w':=by
 obtain⟨vs,e,c,ho,hk⟩:=kX hk;obtain⟨cs,t,fz,hb,hcell,hkind⟩:=h.cells ho hL
 have key:∀(S':St) (kd:CK) (olds:List Nat),S'.n=Sz.n->(∀j,S'.obj j=if j=i then some (.cells (splice off new vs) e kd)else if j∈olds then some .dead else Sz.obj j)->
  off+new.length<=vs.length->w0.heap.size<=L.b->RQ cs.size fz->(fS.cells vs e c).reads=false->(∀l,kd= .grown l->l=[])->(fS.cells vs e c).olds=olds->(fS.cells (splice off new vs) e kd).reads=false->
  (∀j∈olds,j<Sz.n)->
  (∀cs':Array Value,cs'.size=cs.size->Er P w0 L cs' vs.length fz e t kd)->
  Rel P w0 U S' (w.putObj L.b (.cells ⟨splice (L.s+off) new' cs.toList⟩ t fz))/\Stp U w U (w.putObj L.b (.cells ⟨splice (L.s+off) new' cs.toList⟩ t fz))/\
   (storeCells ⟨L.b,L.s+off,none⟩ new').run P w= .ok () (w.putObj L.b (.cells ⟨splice (L.s+off) new' cs.toList⟩ t fz)):=by
  intro S' kd olds hSn lK hlen hB hth hreads hkd holds aFF aDd hKR
  have hvl:∀j,j<vs.length->L.s+j<cs.size:=fun j hj=>by
   obtain⟨v',hv',_⟩:=hcell j vs[j] (List.getElem?_eq_getElem hj);exact(Array.getElem?_eq_some_iff.1 hv').1
  have hfit:new.length=0\/L.s+off+new'.length<=cs.size:=by
   rcases Nat.eq_zero_or_pos new.length with hz | hz
   ·exact .inl hz
   ·right
    have:=hvl (off+new.length-1) (by omega);rw [<-hn.1];omega
  have hcs:cs.toList.length=cs.size:=rfl
  have hsz:(⟨splice (L.s+off) new' cs.toList⟩:Array Value).size=cs.size:=by
   rcases hfit with hz | hz
   ·have:new'=[]:=List.eq_nil_of_length_eq_zero (by rw [<-hn.1];exact hz)
    subst this;simp [splice]
   ·show(splice (L.s+off) new' cs.toList).length=_
    rw [mK _ _ _ (by omega)];exact hcs
  have hget:∀j:Nat,(⟨splice (L.s+off) new' cs.toList⟩:Array Value)[j]? =if L.s+off<=j/\j<L.s+off+new'.length then new'[j-(L.s+off)]? else cs[j]? :=by
   intro j;rcases hfit with hz | hz
   ·have:new'=[]:=List.eq_nil_of_length_eq_zero (by rw [<-hn.1];exact hz)
    subst this;rw [if_neg (by simp)];simp [splice]
   ·have:=oN (L.s+off) new' cs.toList (by omega) j
    simpa using this
  have hnew:wG P w0 U (w.putObj L.b (.cells ⟨splice (L.s+off) new' cs.toList⟩ t fz)) i (.cells (splice off new vs) e kd):=by
   refine⟨L,_,t,fz,hL,NC hb,fun j v hj=>?_,by rw [mK _ _ _ hlen];exact hKR _ hsz⟩;rw [oN _ _ _ hlen]at hj;rw [hget];split at hj
   ·rename_i hr
    rw [if_pos (by have:=hn.1;omega)];obtain⟨v',hv',hr'⟩:=hn.get hj;exact⟨v',by rw [show L.s+j-(L.s+off)=j-off by omega];exact hv',hr'⟩
   ·rename_i hr
    rw [if_neg (by have:=hn.1;omega)];exact hcell j v hj
  have Mv:∀j x M,j≠i->j∉olds->Sz.obj j=some x->x.qK=false->U j=some M->M.b≠L.b:=by
   intro j x M hj hjo hx hd hM hb';rcases h.sep i j _ x L M (Ne.symm hj) ho hx rfl hd hL hM hb'.symm with ⟨hr,_⟩ | hs | hs
   ·rw [hreads]at hr;cases hr
   ·rw [holds]at hs;exact hjo hs
   ·cases x with
    | cells ws e' kk=>
     cases kk with
     | grown l=>
      obtain⟨_,h2⟩:=h.old j ws e' l hx i hs;rcases h2 _ ho with h3 | ⟨_,_,h3,_⟩
      ·cases h3
      ·injection h3 with _ _ h3;subst h3;simp [fS.reads]at hreads
     | _=>simp [fS.olds]at hs
    | _=>simp [fS.olds]at hs
  have hcase:∀j x,S'.obj j=some x->(j=i/\x= .cells (splice off new vs) e kd)\/(j≠i/\j∈olds/\x= .dead)\/(j≠i/\j∉olds/\Sz.obj j=some x):=by
   intro j x hx;rw [lK]at hx;by_cases e1:j=i
   ·rw [if_pos e1]at hx;injection hx with hx;exact .inl ⟨e1,hx.symm⟩
   ·rw [if_neg e1]at hx
    by_cases e2:j∈olds
    ·rw [if_pos e2]at hx;injection hx with hx;exact .inr (.inl ⟨e1,e2,hx.symm⟩)
    ·rw [if_neg e2]at hx;exact .inr (.inr ⟨e1,e2,hx⟩)
  have hrel:=h.upd (S':=S') (w':=w.putObj L.b (.cells ⟨splice (L.s+off) new' cs.toList⟩ t fz)) (b:=L.b) hB ⟨i,L,hL,rfl⟩ hSn (putObj_size _ _) (fun c hc=>uP hc) rfl rfl rfl
   (fun j x hx=>by
    rcases hcase j x hx with ⟨e1,e2⟩ | ⟨e1,e2,e3⟩ | ⟨e1,e2,hx'⟩
    ·subst e1 e2;exact .inr (.inr ⟨h.lt _ _ ho,hnew⟩)
    ·subst e3;exact .inl ⟨rfl,aDd _ e2⟩
    ·cases hd:x.qK with
     | true=>exact .inl ⟨rfl,h.lt _ _ hx'⟩
     | false=>exact .inr (.inl ⟨hx',fun M hM=>Mv j x M e1 e2 hx' hd hM⟩))
   (fun p q x y M N hpq hx hy Sn hdy hM hN OK=>by
    rcases hcase p x hx with ⟨e1,e2⟩ | ⟨_,_,e3⟩ | ⟨e1,e2,hx'⟩
    ·rcases hcase q y hy with ⟨f1,_⟩ | ⟨_,_,f3⟩ | ⟨f1,f2,hy'⟩
     ·exact absurd (e1.trans f1.symm) hpq
     ·subst f3;cases hdy
     ·subst e1;rw [hL]at hM;injection hM with hM;subst hM
      exact absurd OK.symm (Mv q y N f1 f2 hy' hdy hN)
    ·subst e3;cases Sn
    ·rcases hcase q y hy with ⟨f1,_⟩ | ⟨_,_,f3⟩ | ⟨f1,f2,hy'⟩
     ·subst f1;rw [hL]at hN;injection hN with hN;subst hN
      exact absurd OK (Mv p x M e1 e2 hx' Sn hM)
     ·subst f3;cases hdy
     ·exact h.sep p q x y M N hpq hx' hy' Sn hdy hM hN OK)
   (fun j ws e' l hj q hq=>by
    rcases hcase j _ hj with ⟨e1,e2⟩ | ⟨_,_,e3⟩ | ⟨e1,e2,hj'⟩
    ·injection e2 with _ _ e2
     have:=hkd l e2.symm;subst this;cases hq
    ·cases e3
    ·obtain⟨g1,g2⟩:=h.old j ws e' l hj' q hq
     refine⟨g1,fun o hqo=>?_⟩;rcases hcase q o hqo with ⟨f1,f2⟩ | ⟨_,_,f3⟩ | ⟨_,_,hq'⟩
     ·subst f1
      rcases g2 _ ho with g3 | ⟨_,_,g3,_⟩
      ·cases g3
      ·injection g3 with _ _ g3;subst g3;simp [fS.reads]at hreads
     ·exact .inl f3
     ·exact g2 o hq')
  refine⟨hrel.1,hrel.2,?_⟩;rcases hfit with hz | hz
  ·have:new'=[]:=List.eq_nil_of_length_eq_zero (by rw [<-hn.1];exact hz)
   subst this;have e1:splice (L.s+off) [] cs.toList=cs.toList:=by simp [splice]
   rw [e1,IT hb];simp [storeCells]
  ·have:=AO (P:=P) new' w L.b (L.s+off) 0 cs t fz hb (by omega) (fun x hx hy=>hth x (by omega)) h1
   simpa using this
 have aEG:asIs new (vs.drop off)=true->k Sz=true->(∀j,j<vs.length->¬(fz.1<=L.s+j/\L.s+j<fz.2))->
  ∃S' w',k S'=true/\Rel P w0 U S' w'/\Stp U w U w'/\(storeCells ⟨L.b,L.s+off,none⟩ new').run P w= .ok () w':=by
  intro hs hk2 hth;obtain⟨s1,s2⟩:=Cs hs
  have hnn:new'=new:=by
   apply List.ext_getElem?;intro j;cases hj:new[j]? with
   | none=>exact hn.get_none hj
   | some v=>
    obtain⟨v',hv',hr⟩:=hn.get hj;rw [hv',hr.of_flat (s1 v (List.mem_of_getElem? hj))]
  subst hnn
  have hcur:∀j v,new'[j]? =some v->cs[L.s+off+j]? =some v:=fun j v hj=>by
   obtain⟨v',hv',hr⟩:=hcell (off+j) v (by have:=s2 j v hj;rw [List.getElem?_drop]at this;exact this);rw [<-Nat.add_assoc]at hv';rw [hv',hr.of_flat (s1 v (List.mem_of_getElem? hj))]
  have aFO:∀j,j<new'.length->off+j<vs.length:=fun j hj=>by
   have:=s2 j new'[j] (List.getElem?_eq_getElem hj);rw [List.getElem?_drop]at this;exact(List.getElem?_eq_some_iff.1 this).1
  rcases Nat.eq_zero_or_pos new'.length with hz | hz
  ·have:new'=[]:=List.eq_nil_of_length_eq_zero hz
   subst this;exact⟨Sz,w,hk2,h,.refl U w,by simp [storeCells]⟩
  ·have hle:L.s+off+new'.length<=cs.size:=by
    have:=hcur (new'.length-1) _ (List.getElem?_eq_getElem (by omega));have:=(Array.getElem?_eq_some_iff.1 this).1;omega
   have hrun:=AO (P:=P) new' w L.b (L.s+off) 0 cs t fz hb (by omega) (fun x hx hy=>by
    have:=hth (x-L.s) (by have:=aFO (x-L.s-off) (by omega);omega)
    rwa [show L.s+(x-L.s)=x by omega]at this) h1
   have hsp:splice (L.s+off) new' cs.toList=cs.toList:=by
    apply List.ext_getElem?;intro j;rw [oN _ _ _ (by simpa using hle)];split
    ·rename_i hj
     rw [List.getElem?_eq_getElem (by omega)];have:=hcur (j-(L.s+off)) _ (List.getElem?_eq_getElem (by omega));rw [show L.s+off+(j-(L.s+off))=j by omega]at this;simpa using this.symm
    ·rfl
   refine⟨Sz,w,hk2,h,.refl U w,?_⟩;have e:w.putObj L.b (.cells ⟨splice (L.s+off) new' cs.toList⟩ t fz)=w:=by rw [hsp];exact IT hb
   simpa [e]using hrun
 cases c with
 | exact=>
  simp only [gS]at hk;split at hk
  ·rename_i hlen
   rw [jX]at hk;obtain⟨g1,g2,g3,g4⟩:=hkind
   obtain⟨r1,r2,r3⟩:=key (Sz.set i (.cells (splice off new vs) e .exact)) .exact [] rfl (fun j=>by rw [wZ];simp) hlen g1 g4.1 rfl (by simp) rfl rfl (by simp)
    (fun cs' hcs'=>⟨g1,g2,by omega,by rw [hcs'];exact g4⟩)
   exact⟨_,_,hk,r1,r2,r3⟩
  ·cases hk
 | grown olds=>
  have hk2:(oE off vs fun l=>match asIs new l with | true=>k Sz | false=>iA off new vs fun vs=>Hp olds Sz.h fun h=>MX (.cells vs e (.grown [])) (Nat.succ i) h i fun h=>k ⟨h,Sz.n⟩)=true:=hk;clear hk;rw [eH]at hk2;split at hk2
  ·cases hs:asIs new (vs.drop off)with
   | true=>
    rw [hs]at hk2;obtain⟨g1,g2,g3,g4⟩:=hkind;refine aEG hs hk2 fun j hj=>g2 _ ?_;obtain⟨v',hv',_⟩:=hcell j _ (List.getElem?_eq_getElem hj);exact(Array.getElem?_eq_some_iff.1 hv').1
   | false=>
    rw [hs]at hk2;have hk:=hk2;clear hk2;simp only [gS]at hk;split at hk
    ·rename_i hlen
     rw [XS,FP]at hk;obtain⟨g1,g2,g3,g4⟩:=hkind
     obtain⟨r1,r2,r3⟩:=key ⟨Tr.IC (fS.cells (splice off new vs) e (CK.grown [])) i.succ (olds.foldl (fun h i=>h.put i fS.dead) Sz.h) i,Sz.n⟩ (.grown []) olds rfl (fun j=>by
      show Tr.get (Tr.IC _ (i+1) _ i) j=_;rw [Hx _ _ _ _ _ (Nat.lt_succ_self i),Wz];rfl) hlen g1 g2 rfl (fun l hl=>by injection hl with hl;exact hl.symm) rfl rfl
      (fun j hj=>(h.old i vs e olds ho j hj).1) (fun cs' hcs'=>⟨g1,by rw [hcs'];exact g2,by rw [hcs'];exact g3,g4⟩)
     exact⟨_,_,hk,r1,r2,r3⟩
    ·cases hk
  ·cases hk2
 | rs=>
  have hk2:(oE off vs fun l=>match asIs new l with | true=>k Sz | false=>false)=true:=hk;rw [eH]at hk2;split at hk2
  ·cases hs:asIs new (vs.drop off)with
   | true=>rw [hs]at hk2;exact aEG hs hk2 hkind.2
   | false=>rw [hs]at hk2;cases hk2
  ·cases hk2
 | stale=>cases hk
 | ro=>cases hk
theorem wY{v:Value}{k:List Value->Bool} (hk:iB v k=true){v':Value} (hv:VR U v v'):
 ∃cs,k cs=true/\(∀x∈cs,oneCell x=true)/\gO U cs v'.cells.toList/\cs=v.cells.toList:=by
 unfold iB at hk;split at hk
 ·rename_i cs
  rw [jW]at hk;split at hk
  ·rename_i ha
   obtain⟨a',rfl,hl⟩:=hv.FL;exact⟨_,hk,List.all_eq_true.1 ha,hl,rfl⟩
  ·cases hk
 ·cases hk
 ·rename_i h1 h2
  have hc:v.cells= #[v]:=by cases v<;>first | rfl | exact absurd rfl (h1 _)
  have ho:oneCell v=true:=by cases v<;>first | rfl | exact absurd rfl (h1 _) | exact absurd rfl (h2 _)
  have hc':v'.cells= #[v']:=by have:=hv.oneCell ho;cases v'<;>first | rfl | (simp [Value.oneCell']at this)
  exact⟨_,hk,by simpa using ho,by rw [hc'];exact .cons hv (.nil U),by rw [hc]⟩
theorem OO{l l':List Value} (h:gO U l l') (h1:∀x∈l,oneCell x=true):∀v∈l',v.oneCell'=true:=by
 intro v hv;obtain⟨j,hj⟩:=List.getElem?_of_mem hv;have hlt:j<l.length:=by rw [h.1];exact(List.getElem?_eq_some_iff.1 hj).1
 exact(h.2 j l[j] v (List.getElem?_eq_getElem hlt) hj).oneCell (h1 _ (List.getElem_mem _))
theorem Em (h:Rel P w0 U Sz w){t:TypeId}{a a' x x':Value}{k:St->Bool} (hk:RL P t a x Sz k=true) (ha:VR U a a') (hx:VR U x x'):
 ∃S' w',k S'=true/\Rel P w0 U S' w'/\Stp U w U w'/\(Instr.storeAt t a' x').run P w= .ok () w':=by
 unfold RL at hk;split at hk
 ·rename_i i o
  cases ha with
  | flat h=>simp [cD]at h
  | ptr hL=>
   rename_i L;split at hk
   ·rename_i n hsz
    obtain⟨cs,hk,h1,hcs,_⟩:=wY hk hx;rw [cV]at hk;split at hk
    ·rename_i hn
     have hn':cs.length=n:=Nat.eq_of_beq_eq_true hn;obtain⟨S',w',hk',r1,r2,r3⟩:=kP h hk hL hcs (OO hcs h1);refine⟨S',w',hk',r1,r2,?_⟩;have hsz':x'.cells.size=n:=by rw [<-hn',hcs.1];rfl
     simp [Instr.storeAt,Instr.sureAddr,storeVar,fU hsz,hsz',r3]
    ·cases hk
   ·cases hk
 ·cases hk
theorem Rel.Wv (h:Rel P w0 U Sz w){cs cs':List Value} (hcs:gO U cs cs') (t:TypeId) (m:Nat):
 Rel P w0 (U.put Sz.n ⟨w.heap.size,0,cs'.length,m⟩) (Sz.new (.cells cs t .exact)) (w.alloc (.cells ⟨cs'⟩ t))/\Stp U w (U.put Sz.n ⟨w.heap.size,0,cs'.length,m⟩) (w.alloc (.cells ⟨cs'⟩ t)):=by
 refine h.new _ _ _ rfl (fun U' he hU'=>⟨_,⟨cs'⟩,t,(0,0),hU',?_,fun j v hj=>?_,?_⟩) (by simp [fS.olds])
 ·show(w.heap.push _)[w.heap.size]? =_;simp
 ·obtain⟨v',hv',hr⟩:=hcs.get hj
  exact⟨v',by simpa using hv',hr.mono he⟩
 ·exact⟨h.base.size,rfl,hcs.1.symm,fun x _ hx=>by simp at hx,rfl⟩
theorem Rel.Ht (h:Rel P w0 U Sz w){cs cs' more:List Value} (hcs:gO U cs cs') (e:TypeId){m:Nat} (hm:cN P e=some m) (fz:Nat×Nat) (hfz:RQ (cs'++more).length fz) (olds:List Nat)
 (hold:∀i∈olds,i<Sz.n/\∀x,Sz.obj i=some x->x= .dead\/∃ws e,x= .cells ws e .stale):
 Rel P w0 (U.put Sz.n ⟨w.heap.size,0,(cs'++more).length,m⟩) (Sz.new (.cells cs e (.grown olds))) (w.alloc (.cells ⟨cs'++more⟩ e fz))/\Stp U w (U.put Sz.n ⟨w.heap.size,0,(cs'++more).length,m⟩) (w.alloc (.cells ⟨cs'++more⟩ e fz)):=by
 refine h.new _ _ _ rfl (fun U' he hU'=>⟨_,⟨cs'++more⟩,e,fz,hU',?_,fun j v hj=>?_,?_⟩) hold
 ·show(w.heap.push _)[w.heap.size]? =_;simp
 ·obtain⟨v',hv',hr⟩:=hcs.get hj
  refine⟨v',?_,hr.mono he⟩;have hlt:j<cs'.length:=(List.getElem?_eq_some_iff.1 hv').1;have e1:(⟨cs'++more⟩:Array Value)[0+j]? =(cs'++more)[j]? :=by simp
  exact e1.trans (by rw [List.getElem?_append_left hlt];exact hv')
 ·exact⟨h.base.size,hfz,rfl,hm,rfl⟩
end mem
section mem
variable{P:Program}{w0:World}{U:Rn}{Sz:St}{w:World}
structure tE (P:Program) (U:Rn) (A:bG) (a:Act):Prop where
 tmps:Ia U A.tmps a.tmps.toList
 g:A.g=P.globals.size
theorem aO (h:Rel P w0 U Sz w){A:bG}{a:Act} (hA:tE P U A a){x:Operand}{k:Value->Bool} (hk:rK A x k=true):∃v,k v=true/\VR U v (a.eval x):=by
 obtain⟨v,hv,h1⟩:=Xa hk;refine⟨v,hv,?_⟩;rcases h1 with ⟨t,rfl,ht⟩ | ⟨rfl,hf⟩ | ⟨g,rfl,hg,rfl⟩ | ⟨f,rfl,rfl⟩
 ·obtain⟨v',hv',hr⟩:=hA.tmps.get ht
  have e:a.tmps.getD t undef=v':=by
   rw [Array.getElem?_toList]at hv';simp [Array.getD_eq_getD_getElem?,hv']
  show VR U v (a.tmps.getD t undef);rw [e];exact hr
 ·exact .xK hf
 ·obtain⟨L,h1,h2,h3⟩:=h.XQ g (by rw [<-hA.g];exact hg)
  have:=VR.ptr (o:=0) h1;rw [h2,h3]at this;exact this
 ·exact .func rfl rfl (by simp) (by simp)
theorem tF (h:Rel P w0 U Sz w){A:bG}{a:Act} (hA:tE P U A a):∀{xs:List Operand} {k:List Value->Bool},As A xs k=true->∃vs,k vs=true/\gO U vs (xs.map a.eval):=by
 intro xs;induction xs with
 | nil=>intro k hk;exact⟨[],hk,.nil U⟩
 | cons x xs ih=>
  intro k hk;obtain⟨v,hv,hr⟩:=aO h hA (show rK A x (fun v=>As A xs fun vs=>k (v::vs))=true from hk);obtain⟨vs,hvs,hrs⟩:=ih hv;exact⟨v::vs,hvs,.cons hr hrs⟩
theorem wI (h:Rel P w0 U Sz w){A:bG}{a:Act} (hA:tE P U A a){x:Option Operand}{k:Option Value->Bool} (hk:XK A x k=true):
 ∃v,k v=true/\(v=none/\x=none\/∃u y,v=some u/\x=some y/\VR U u (a.eval y)):=by
 cases x with
 | none=>exact⟨none,hk,.inl ⟨rfl,rfl⟩⟩
 | some x=>obtain⟨v,hv,hr⟩:=aO h hA (show rK A x (fun v=>k (some v))=true from hk);exact⟨some v,hv,.inr ⟨v,x,rfl,rfl,hr⟩⟩
theorem Hy{A:bG}{a:Act} (hA:tE P U A a){d:Option Tmp}{v v':Value} (hv:VR U v v'){k:bG->Bool} (hk:lS A d v k=true):
 ∃A',k A'=true/\tE P U A' (a.put d v')/\A'.marks=A.marks:=by
 cases d with
 | none=>exact⟨A,hk,hA,rfl⟩
 | some d=>
  obtain⟨hd,hk⟩:=wH (show uK v A.tmps d (fun ts=>k ⟨ts,A.marks,A.g⟩)=true from hk);exact⟨_,hk,⟨by simpa [Act.put]using hA.tmps.set hd hv,hA.g⟩,rfl⟩
theorem tE.mono{U':Rn} (he:Ext U U'){A:bG}{a:Act} (h:tE P U A a):tE P U' A a:=⟨h.tmps.mono he,h.g⟩
theorem Bk{t:TypeId}{a b a' b':Value}{k:Bool->Bool} (hk:KW P t a b k=true) (ha:VR U a a') (hb:VR U b b'):
 ∃e,k e=true/\cD a=true/\cD b=true/\IF P t=true/\∀(d:Nat) (w:World),(Op.equalIn (d+1) t a' b').run P w= .ok e w:=by
 unfold KW at hk;split at hk
 ·rename_i kd hu
  split at hk
  ·rename_i j x l y
   split at hk
   ·rename_i hj
    rw [nH,rL]at hk;have:=FT hj;subst this;rw [ha.of_flat rfl,hb.of_flat rfl];exact⟨_,hk,rfl,rfl,by simp [IF,hu],fun d w=>run_equalIn_int w d t j kd x y hu⟩
   ·cases hk
  ·cases hk
 ·rename_i hu
  split at hk
  ·rename_i x y
   rw [nH,FU,<-KZ,<-KZ]at hk;rw [ha.of_flat rfl,hb.of_flat rfl];exact⟨_,hk,rfl,rfl,by simp [IF,hu],fun d w=>run_equalIn_string w d t x y hu⟩
  ·cases hk
 ·rename_i hu
  split at hk
  ·rename_i x y
   rw [nH]at hk;rw [ha.of_flat rfl,hb.of_flat rfl];exact⟨_,hk,rfl,rfl,by simp [IF,hu],fun d w=>run_equalIn_bool' w d t x y hu⟩
  ·cases hk
 ·cases hk
theorem Mw{t:TypeId} (h:IF P t=true):yN P t=some false:=by
 unfold IF at h;unfold yN;split at h<;>rename_i hu<;>first | (rw [hu];rfl) | cases h
theorem OZ{t:TypeId} (h:IF P t=true){cs:Array Value}{off:Nat}{v:Value} (hv:cs.toList[off]? =some v) (w:World):(part t cs off).run P w= .ok v w:=by
 rw [Array.getElem?_toList]at hv;simp [part,AN (Mw h),hv]
theorem YJ:∀(fs:List Field) (i:Nat) (a b:List Value) (X Y:Array Value) (k:Bool->Bool),xM P i fs=true->uL P fs a b k=true->
 gO U a (X.toList.drop i)->gO U b (Y.toList.drop i)->∃e,k e=true/\∀(d:Nat) (w:World),(Op.eqFields (d+1) X Y fs).run P w= .ok e w:=by
 intro fs;induction fs with
 | nil=>intro i a b X Y k _ hk _ _;exact⟨true,hk,fun d w=>rfl⟩
 | cons f fs ih=>
  intro i a b X Y k hp hk ha hb;simp only [xM,Bool.and_eq_true,beq_iff_eq,bne_iff_ne]at hp;obtain⟨⟨⟨hname,hoff⟩,hpl⟩,hrest⟩:=hp;cases a with
  | nil=>cases hk
  | cons x a=>
   cases b with
   | nil=>cases hk
   | cons y b=>
    have hk':KW P f.type x y (fun e=>match e with | true=>uL P fs a b k | false=>k false)=true:=hk;obtain⟨x',tx,ex,hx,htx⟩:=ha.dI;obtain⟨y',ty,ey,hy,hty⟩:=hb.dI;obtain⟨e,he,_,_,_,hrun⟩:=Bk hk' hx hy;have gx:X.toList[i]? =some x':=by have:=congrArg (·[0]?) ex;simpa [List.getElem?_drop]using this
    have gy:Y.toList[i]? =some y':=by have:=congrArg (·[0]?) ey;simpa [List.getElem?_drop]using this
    have dx:X.toList.drop (i+1)=tx:=by have:=congrArg List.tail ex;simpa [List.tail_drop]using this
    have dy:Y.toList.drop (i+1)=ty:=by have:=congrArg List.tail ey;simpa [List.tail_drop]using this
    cases e with
    | false=>
     refine⟨false,he,fun d w=>?_⟩;simp [Op.eqFields,hname,hoff,OZ hpl gx,OZ hpl gy,hrun]
    | true=>
     obtain⟨e,he,hr⟩:=ih (i+1) a b X Y k hrest he (by rw [dx];exact htx) (by rw [dy];exact hty);refine⟨e,he,fun d w=>?_⟩;simp [Op.eqFields,hname,hoff,OZ hpl gx,OZ hpl gy,hrun,hr]
theorem Ja{t:TypeId}{fs:List Field} (h:XH P t=some fs):P.underlying t=some (.struct (P.fieldsOf t))/\(P.fieldsOf t).toList=fs/\xM P 0 fs=true/\P.stoodInHeld t=false/\P.eqGuardType P.depth t=false:=by
 unfold XH at h;split at h
 ·rename_i gs hu
  split at h
  ·rename_i hc
   injection h with h;simp only [Bool.and_eq_true,Bool.not_eq_true']at hc;have e:P.fieldsOf t=gs:=by simp [Program.fieldsOf,hu]
   rw [e];exact⟨hu,h,by rw [<-h];exact hc.1.1,hc.1.2,hc.2⟩
  ·cases h
 ·cases h
section aFP
variable (w:World) (d:Nat){t:TypeId}
theorem aFQ{e:TypeId} (h:P.underlying t=some (.pointer e)) (a:Addr):(Op.equalIn (d+1) t (.pointer (some a)) (.pointer none)).run P w= .ok false w:=by simp [Op.equalIn,run_underlying h]
theorem aFR{e:TypeId} (h:P.underlying t=some (.pointer e)) (a:Addr):(Op.equalIn (d+1) t (.pointer none) (.pointer (some a))).run P w= .ok false w:=by simp [Op.equalIn,run_underlying h]
theorem aFS{e:TypeId} (h:P.underlying t=some (.pointer e)):(Op.equalIn (d+1) t (.pointer none) (.pointer none)).run P w= .ok true w:=by simp [Op.equalIn,run_underlying h]
theorem aFT{e:TypeId} (h:P.underlying t=some (.slice e)) (a:Addr) (n c m q:Nat):(Op.equalIn (d+1) t (.slice (some a) n c) (.slice none m q)).run P w= .ok false w:=by simp [Op.equalIn,run_underlying h]
theorem aFU{e:TypeId} (h:P.underlying t=some (.slice e)) (a:Addr) (n c m q:Nat):(Op.equalIn (d+1) t (.slice none m q) (.slice (some a) n c)).run P w= .ok false w:=by simp [Op.equalIn,run_underlying h]
theorem aFV{e:TypeId} (h:P.underlying t=some (.slice e)) (n c m q:Nat):(Op.equalIn (d+1) t (.slice none m q) (.slice none n c)).run P w= .ok true w:=by simp [Op.equalIn,run_underlying h]
theorem aFW{e f:TypeId} (h:P.underlying t=some (.map e f)) (a:Nat):(Op.equalIn (d+1) t (.map (some a)) (.map none)).run P w= .ok false w:=by simp [Op.equalIn,run_underlying h]
theorem aFX{e f:TypeId} (h:P.underlying t=some (.map e f)) (a:Nat):(Op.equalIn (d+1) t (.map none) (.map (some a))).run P w= .ok false w:=by simp [Op.equalIn,run_underlying h]
theorem aFY{e f:TypeId} (h:P.underlying t=some (.map e f)):(Op.equalIn (d+1) t (.map none) (.map none)).run P w= .ok true w:=by simp [Op.equalIn,run_underlying h]
theorem aEH{e f:Array TypeId}{v:Bool} (h:P.underlying t=some (.func e f v)) (a:Fn) (x y:Array Value):(Op.equalIn (d+1) t (.func a x y) .nilFunc).run P w= .ok false w:=by simp [Op.equalIn,run_underlying h]
theorem aEI{e f:Array TypeId}{v:Bool} (h:P.underlying t=some (.func e f v)) (a:Fn) (x y:Array Value):(Op.equalIn (d+1) t .nilFunc (.func a x y)).run P w= .ok false w:=by simp [Op.equalIn,run_underlying h]
theorem aEJ{e f:Array TypeId}{v:Bool} (h:P.underlying t=some (.func e f v)):(Op.equalIn (d+1) t .nilFunc .nilFunc).run P w= .ok true w:=by simp [Op.equalIn,run_underlying h]
theorem aEK{m:Array (String×TypeId)} (h:P.underlying t=some (.interface m)) (u:TypeId) (x:Value):(Op.equalIn (d+1) t (.iface u x) .nilIface).run P w= .ok false w:=by simp [Op.equalIn,run_underlying h]
theorem aEL{m:Array (String×TypeId)} (h:P.underlying t=some (.interface m)) (u:TypeId) (x:Value):(Op.equalIn (d+1) t .nilIface (.iface u x)).run P w= .ok false w:=by simp [Op.equalIn,run_underlying h]
end aFP
def Look:Value->Value->Prop
 | .pointer (some _),v'=>∃a,v'= .pointer (some a)
 | .slice (some _) _ _,v'=>∃a:Addr×Nat×Nat,v'= .slice (some a.1) a.2.1 a.2.2
 | .map (some _),v'=>∃b,v'= .map (some b)
 | .func _ _ _,v'=>∃a:Fn×Array Value×Array Value,v'= .func a.1 a.2.1 a.2.2
 | .iface t _,v'=>∃u,v'= .iface t u
 | .pointer none,v'=>∃_:Unit,v'= .pointer none
 | .slice none n c,v'=>∃_:Unit,v'= .slice none n c
 | .map none,v'=>∃_:Unit,v'= .map none
 | .nilFunc,v'=>∃_:Unit,v'= .nilFunc
 | .nilIface,v'=>∃_:Unit,v'= .nilIface
 | _,_=>True
theorem VR.look{v v':Value} (h:VR U v v'):Look v v':=by
 cases h with
 | flat h=>
  cases v
  case pointer a=>cases a with | none=>exact⟨(),rfl⟩ | some a=>simp [cD]at h
  case slice a n c=>cases a with | none=>exact⟨(),rfl⟩ | some a=>simp [cD]at h
  case map a=>cases a with | none=>exact⟨(),rfl⟩ | some a=>simp [cD]at h
  case func=>simp [cD]at h
  case iface=>simp [cD]at h
  case nilFunc=>exact⟨(),rfl⟩
  case nilIface=>exact⟨(),rfl⟩
  all_goals trivial
 | ptr _=>exact⟨_,rfl⟩
 | slice _=>exact⟨(_,_,_),rfl⟩
 | lU _ _ _ _ _=>exact⟨(_,_,_),rfl⟩
 | uM=>exact⟨(_,_,_),rfl⟩
 | uN _=>exact⟨(_,_,_),rfl⟩
 | map _=>exact⟨_,rfl⟩
 | func _ _ _ _=>exact⟨(_,_,_),rfl⟩
 | yield _=>exact⟨(_,_,_),rfl⟩
 | meth _=>exact⟨(_,_,_),rfl⟩
 | iface _=>exact⟨_,rfl⟩
 | agg _ _=>trivial
 | tuple _ _=>trivial
theorem PA{t:TypeId}{a b a' b':Value}{k:Bool->Bool} (hk:DB P t a b k=true) (ha:VR U a a') (hb:VR U b b'):
 ∃e,k e=true/\(∀(w:World),(Op.equal t a' b').run P w= .ok e w)/\(∀(op:BinOp) (x y:Operand) (w:World),(eqGuard op t x y a' b').run P w= .ok () w):=by
 have guard:∀(op:BinOp) (x y:Operand) (w:World),(∀xs,a'≠ .agg xs)->(a'= .nilIface->b'≠ .nilIface)->(eqGuard op t x y a' b').run P w= .ok () w:=by
  intro op x y w h1 h2;unfold eqGuard;cases op<;>cases a'<;>cases b'<;>first | rfl | exact absurd rfl (h1 _) | exact absurd rfl (h2 rfl)
 unfold DB at hk;split at hk
 ·rename_i xs ys
  split at hk
  ·rename_i fs hfs
   obtain⟨h1,h2,h3,h4,h5⟩:=Ja hfs;obtain⟨xs',rfl,hx⟩:=ha.FL;obtain⟨ys',rfl,hy⟩:=hb.FL;obtain⟨e,he,hr⟩:=YJ fs 0 _ _ xs' ys' k h3 hk (by simpa using hx) (by simpa using hy);refine⟨e,he,fun w=>?_,fun op x y w=>run_eqGuard_agg w op t x y xs' ys' h5⟩;show(Op.equalIn (9999+1) t _ _).run P w=_;rw [run_equalIn_struct w 9999 t xs' ys' h1 h4,h2];exact hr 9998 w
  ·cases hk
 all_goals first
  | cases hk;done
  | (split at hk<;>first
   | cases hk;done
   | (rename_i hu
      rw [nH]at hk;have ea:=ha.of_flat rfl;have eb:=hb.of_flat rfl;rw [ea,eb]at guard;rw [ea,eb];exact⟨_,hk,fun w=>run_equal_bool w t _ _ hu,fun op x y w=>guard op x y w (by simp) (by simp)⟩)
   | (rename_i hu
      obtain⟨_,ea⟩:=ha.look;obtain⟨_,eb⟩:=hb.look;refine⟨_,hk,fun w=>?_,fun op x y w=>guard op x y w ?_ ?_⟩
      ·show(Op.equalIn (9999+1) t _ _).run P w=_
       rw [ea,eb]
       first
        | exact aFQ w 9999 hu _ | exact aFR w 9999 hu _ | exact aFS w 9999 hu | exact aFT w 9999 hu _ _ _ _ _ | exact aFU w 9999 hu _ _ _ _ _ | exact aFV w 9999 hu _ _ _ _ | exact aFW w 9999 hu _ | exact aFX w 9999 hu _
        | exact aFY w 9999 hu | exact aEH w 9999 hu _ _ _ | exact aEI w 9999 hu _ _ _ | exact aEJ w 9999 hu | exact aEK w 9999 hu _ _ | exact aEL w 9999 hu _ _
      ·intro xs e;rw [ea]at e;cases e
      ·intro e e2;rw [ea]at e;rw [eb]at e2;first | (cases e;done) | (cases e2;done)))
end mem
section mem
variable{P:Program}{w0:World}{U:Rn}{Sz:St}{w:World}
def numeric:Value->Bool
 | .int _ _ | .float _ _ | .complex _ _ _ | .string _=>true
 | _=>false
theorem VR.numeric{v v':Value} (h:VR U v v'):numeric v'=numeric v:=by cases h<;>rfl
theorem PB{t:TypeId}{a b:Value}{k:Bool->Bool} (hk:DB P t a b k=true):numeric a=false:=by
 cases a<;>first | rfl | (unfold DB at hk;cases hk)
theorem binOp_eql{t:TypeId}{a b:Value} (h:numeric a=false):binOp .eql t a b=(do pure (.bool (<-Op.equal t a b))):=by
 cases a<;>cases b<;>first | rfl | (simp [numeric]at h)
theorem binOp_neq{t:TypeId}{a b:Value} (h:numeric a=false):binOp .neq t a b=(do pure (.bool (!(<-Op.equal t a b)))):=by
 cases a<;>cases b<;>first | rfl | (simp [numeric]at h)
theorem Ct (op:BinOp) (t:TypeId) (x y:Operand){a b:Value} (ha:numeric a=true) (w:World):(eqGuard op t x y a b).run P w= .ok () w:=by
 unfold eqGuard;cases op<;>cases a<;>first | (simp [numeric]at ha;done) | (cases b<;>rfl)
theorem XU{op:BinOp}{t:TypeId}{a b a' b':Value}{K:Value->Bool} (hk:Hq P op t a b K=true) (ha:VR U a a') (hb:VR U b b'):
 ∃v,K v=true/\cD v=true/\∀(x y:Operand) (w:World),((do eqGuard op t x y a' b';binOp op t a' b'):Sem Value).run P w= .ok v w:=by
 unfold Hq at hk;split at hk
 ·rename_i k x k' y
  rw [ha.of_flat rfl,hb.of_flat rfl]
  have fin:∀v,K v=true->cD v=true->(∀(P:Program) (t:TypeId) (w:World),(binOp op t (.int k x) (.int k' y)).run P w= .ok v w)->∃v,K v=true/\cD v=true/\∀(x' y':Operand) (w:World),((do eqGuard op t x' y' (.int k x) (.int k' y);binOp op t (.int k x) (.int k' y)):Sem Value).run P w= .ok v w:=
   fun v h1 h2 h3=>⟨v,h1,h2,fun x' y' w=>by rw [Sem.run_bind,Ct op t x' y' rfl];exact h3 P t w⟩
  split at hk
  ·obtain⟨v,h1,h2,h3⟩:=OW (k':=k') hk;exact fin v h1 h2 h3
  ·obtain⟨v,h1,h2,h3⟩:=OW (k':=k') hk;exact fin v h1 h2 h3
  ·split at hk
   ·rename_i hj
    have:=FT hj;subst this;obtain⟨v,h1,h2,_,_,h3⟩:=Be hk;exact fin v h1 h2 h3
   ·cases hk
 ·rename_i x y
  rw [ha.of_flat rfl,hb.of_flat rfl];obtain⟨v,h1,h2,h3⟩:=Bf hk;exact⟨v,h1,h2,fun x' y' w=>by rw [Sem.run_bind,Ct op t x' y' rfl];exact h3 P t w⟩
 ·split at hk
  ·have hs:=PB hk
   obtain⟨e,he,h1,h2⟩:=PA hk ha hb;rw [lE]at he;exact⟨_,he,rfl,fun x y w=>by rw [Sem.run_bind,h2,Result.andThen_ok,binOp_eql (by rw [ha.numeric,hs])];simp [h1]⟩
  ·have hs:=PB hk
   obtain⟨e,he,h1,h2⟩:=PA hk ha hb;rw [lE]at he;exact⟨_,he,rfl,fun x y w=>by rw [Sem.run_bind,h2,Result.andThen_ok,binOp_neq (by rw [ha.numeric,hs])];simp [h1]⟩
  ·cases hk
theorem Cl{op:UnOp}{a a':Value}{K:Value->Bool} (hk:Ar op a K=true) (ha:VR U a a'):
 ∃v,K v=true/\cD v=true/\∀(w:World),(Op.unary op a').run P w= .ok v w:=by
 unfold Ar at hk;split at hk
 ·rw [Ez]at hk
  rw [ha.of_flat rfl];exact⟨_,hk,rfl,fun w=>rfl⟩
 ·rw [iO]at hk
  rw [ha.of_flat rfl];exact⟨_,hk,rfl,fun w=>rfl⟩
 ·rw [lE]at hk
  rw [ha.of_flat rfl];exact⟨_,hk,rfl,fun w=>rfl⟩
 ·cases hk
theorem RU{d:Nat}{x:Option Value}{k:Nat->Bool} (hk:Mi d x k=true):∃n,k n=true/\(x=none/\n=d\/∃kd,x=some (.int kd (.ofNat n))):=by
 unfold Mi at hk;split at hk
 ·exact⟨d,hk,.inl ⟨rfl,rfl⟩⟩
 ·rename_i kd n;exact⟨n,hk,.inr ⟨kd,rfl⟩⟩
 ·cases hk
def VF (U:Rn) (x x':Option Value):Prop:=(x=none/\x'=none)\/∃v v',x=some v/\x'=some v'/\VR U v v'
theorem VF.int{x x':Option Value} (h:VF U x x'){kd:IntKind}{n:Nat} (e:x=some (.int kd (.ofNat n))):x'=some (.int kd (.ofNat n)):=by
 rcases h with ⟨h,_⟩ | ⟨v,v',h1,h2,hr⟩
 ·rw [e]at h;cases h
 ·rw [e]at h1;injection h1 with h1;subst h1
  rw [h2,hr.of_flat rfl]
theorem VF.none{x x':Option Value} (h:VF U x x') (e:x=none):x'=none:=by
 rcases h with ⟨_,h⟩ | ⟨v,v',h1,_⟩
 ·exact h
 ·rw [e]at h1;cases h1
theorem xB{len cap:Nat}{lo hi mx lo' hi' mx':Option Value}{k:Nat->Nat->Nat->Bool} (hk:BY len cap lo hi mx k=true)
 (hl:VF U lo lo') (hh:VF U hi hi') (hm:VF U mx mx'):
 ∃l h m,k l h m=true/\l<=h/\h<=m/\m<=cap/\(mx=none->m=cap)/\∀(cap':Nat),cap<=cap'->(mx'=none->mx=none)->∀(isSlice:Bool) (w:World),(mx'=none\/hi'≠none)->
  (Instr.sliceBounds isSlice len cap' lo' hi' mx').run P w= .ok (l,h,if mx'=none then cap' else m) w:=by
 unfold BY at hk;obtain⟨m,hk,em⟩:=RU hk;obtain⟨h,hk,eh⟩:=RU hk;obtain⟨l,hk,el⟩:=RU hk;split at hk
 ·rename_i h1 h2 h3
  have h1:=Nat.le_of_ble_eq_true h1;have h2:=Nat.le_of_ble_eq_true h2;have h3:=Nat.le_of_ble_eq_true h3;refine⟨l,h,m,hk,h1,h2,h3,fun e=>?_,fun cap' hc hmm isS w hhi=>?_⟩
  ·rcases em with ⟨_,e'⟩ | ⟨kd,e'⟩
   ·exact e'
   ·rw [e]at e';cases e'
  ·have Tp:(match lo' with | some v=>Instr.sliceBound v h (if mx'.isSome then .slice3C else .sliceB) | none=>(pure 0:Sem Nat)).run P w= .ok l w:=by
    rcases el with ⟨e,e'⟩ | ⟨kd,e⟩
    ·rw [hl.none e,e'];rfl
    ·rw [hl.int e];simp [Instr.sliceBound,asIntOf,h1]
   rcases em with ⟨e,e'⟩ | ⟨kd,e⟩
   ·have emx:=hm.none e
    subst emx
    have ehi:(match hi' with | some v=>Instr.sliceBound v cap' (if isS then .sliceAcap else .sliceAlen) | none=>(pure len:Sem Nat)).run P w= .ok h w:=by
     rcases eh with ⟨e2,e2'⟩ | ⟨kd2,e2⟩
     ·rw [hh.none e2,e2'];rfl
     ·rw [hh.int e2];simp [Instr.sliceBound,asIntOf];omega
    unfold Instr.sliceBounds;cases hi' with
    | none=>
     simp at ehi;cases lo' with
     | none=>simp at Tp;simp [Tp,ehi]
     | some u=>simp at Tp;simp [Tp,ehi]
    | some v=>
     simp at ehi;cases lo' with
     | none=>simp at Tp;simp [Tp,ehi]
     | some u=>simp at Tp;simp [Tp,ehi]
   ·have emx:=hm.int e
    subst emx;have aFZ:hi'≠none:=by rcases hhi with h | h;cases h;exact h
    rcases eh with ⟨e2,_⟩ | ⟨kd2,e2⟩
    ·exact absurd (hh.none e2) aFZ
    ·have ehi:=hh.int e2
     subst ehi;simp only [Option.isSome_some,if_true]at Tp;have r1:(Instr.sliceBound (.int kd (.ofNat m)) cap' (if isS then .slice3Acap else .slice3Alen)).run P w= .ok m w:=by simp [Instr.sliceBound,asIntOf];omega
     have r2:(Instr.sliceBound (.int kd2 (.ofNat h)) m .slice3B).run P w= .ok h w:=by simp [Instr.sliceBound,asIntOf];omega
     unfold Instr.sliceBounds;cases lo' with
     | none=>
      simp at Tp;simp only [Sem.run_bind,r1,Result.andThen_ok,r2,Sem.run_pure];simp [Tp]
     | some u=>
      simp only at Tp;simp only [Sem.run_bind,r1,Result.andThen_ok,r2,Sem.run_pure,Option.isSome_some,if_true,Tp];simp
 ·cases hk
end mem
section mem
variable{P:Program}{w0:World}{U:Rn}{Sz:St}{w:World}
theorem eR{t e:TypeId} (h:isSlice P t=some e):P.underlying t=some (.slice e):=by
 unfold isSlice at h;split at h
 ·rename_i hu;injection h with h;subst h;exact hu
 ·cases h
theorem Jb (s:ByteArray) (l h:Nat) (_:h<=s.size):s.extract l h=⟨⟨(s.data.toList.take h).drop l⟩⟩:=by
 apply ByteArray.ext;apply Array.toList_inj.1;simp [ByteArray.data_extract,Array.toList_extract,List.extract_eq_take_drop,List.drop_take]
theorem OP (h:Rel P w0 U Sz w){t:TypeId}{x x':Value}{lo hi mx lo' hi' mx':Option Value}{K:Value->Bool} (hk:wA P t x lo hi mx Sz K=true)
 (hx:VR U x x') (hl:VF U lo lo') (hh:VF U hi hi') (hm:VF U mx mx') (hmh:mx'=none\/hi'≠none):
 ∃v v',K v=true/\VR U v v'/\∀w,(Instr.sliceAt t x' lo' hi' mx').run P w= .ok v' w:=by
 have hmm:mx'=none->mx=none:=fun e=>by
  rcases hm with ⟨h,_⟩ | ⟨_,_,_,h,_⟩
  ·exact h
  ·rw [e]at h;cases h
 unfold wA at hk;split at hk
 ·
   rename_i s;split at hk
   ·rename_i hu
    rw [hx.of_flat rfl];rw [cV]at hk;obtain⟨l,h',m,hk,h1,h2,h3,h4,hrun⟩:=xB (P:=P) hk hl hh (.inl ⟨rfl,rfl⟩);rw [fL]at hk;have hsz:s.data.toList.length=s.size:=rfl;split at hk
    ·rename_i hle
     rw [eH]at hk;split at hk
     ·refine⟨_,_,hk,.flat rfl,fun w=>?_⟩
      have e1:=hm.none rfl;subst e1;have:=hrun s.data.toList.length (Nat.le_refl _) (fun _=>rfl) false w (.inl rfl);rw [hsz]at this;simp only [if_true]at this;simp [Instr.sliceAt,run_underlying hu,Instr.slice,this,Jb s l h' (by omega)]
     ·cases hk
    ·cases hk
   ·cases hk
 ·
   rename_i len cap;split at hk
   ·rename_i e he
    have hu:=eR he;split at hk
    ·rename_i size hsz
     rw [hx.of_flat rfl];obtain⟨l,h',m,hk',h1,h2,h3,h4,hrun⟩:=xB (P:=P) hk hl hh hm;simp only [dE]at hk';refine⟨_,.slice none (h'-l) (m-l),hk',.flat rfl,fun w=>?_⟩;have:=hrun cap (Nat.le_refl _) hmm true w hmh
     have em:(if mx'=none then cap else m)=m:=by
      split
      ·rename_i e2;exact(h4 (hmm e2)).symm
      ·rfl
     rw [em]at this;simp [Instr.sliceAt,run_underlying hu,Instr.slice,this,fU hsz]
    ·cases hk
   ·cases hk
 ·
   rename_i i o sp len cap;split at hk
   ·rename_i e he
    have hu:=eR he;split at hk
    ·rename_i size hsz
     obtain⟨l,h',m,hk',h1,h2,h3,h4,hrun⟩:=xB (P:=P) hk hl hh hm;simp only [dE]at hk';clear hk
     have go:∀(a:Addr) (cap':Nat),cap<=cap'->∀w,(Instr.sliceAt t (.slice (some a) len cap') lo' hi' mx').run P w=
      .ok (.slice (some (if(if mx'=none then cap' else m)=l then a else a.add (l*size))) (h'-l) ((if mx'=none then cap' else m)-l)) w:=by
      intro a cap' hc w;have:=hrun cap' hc hmm true w hmh;have e1:∀(q:Nat),(if q=l then some a else some (a.add (l*size)))=some (if q=l then a else a.add (l*size)):=fun q=>by split<;>rfl
      simp [Instr.sliceAt,run_underlying hu,Instr.slice,this,fU hsz,e1]
     cases hx with
     | flat h=>simp [cD]at h
     | @slice _ _ _ _ L hL=>
      have em:(if mx'=none then cap else m)=m:=by
       split
       ·rename_i e2;exact(h4 (hmm e2)).symm
       ·rfl
      have hgo:=go ⟨L.b,L.s+o,none⟩ cap (Nat.le_refl _);simp only [em]at hgo
      replace hk':(match Nat.beq m l with | true=>K (.slice (some ⟨i,o,none⟩) (h'-l) (m-l)) | false=>K (.slice (some ⟨i,o+l*size,none⟩) (h'-l) (m-l)))=true:=hk'
      split at hk'
      ·rename_i hml
       have hml:=Nat.eq_of_beq_eq_true hml;exact⟨_,_,hk',.slice hL,fun w=>by rw [hgo w,if_pos hml]⟩
      ·rename_i hml
       have hml:m≠l:=fun e=>by subst e;simp at hml
       exact⟨_,_,hk',.slice hL,fun w=>by rw [hgo w,if_neg hml,iC,Nat.add_assoc]⟩
     | @lU _ _ _ _ c' L hL hc hn hend hmp=>
      have hgo:=go ⟨L.b,L.s+o,none⟩ c' hc;cases mx with
      | some y=>
       have hne:mx'≠none:=fun e=>by have:=hmm e;cases this
       simp only [if_neg hne]at hgo
       replace hk':(match Nat.beq m l with | true=>false | false=>K (.slice (some ⟨i,o+l*size,none⟩) (h'-l) (m-l)))=true:=hk'
       split at hk'
       ·cases hk'
       ·rename_i hml
        have hml:m≠l:=fun e=>by subst e;simp at hml
        exact⟨_,_,hk',.slice hL,fun w=>by rw [hgo w,if_neg hml,iC,Nat.add_assoc]⟩
      | none=>
       have he':=hm.none rfl;subst he';simp only [if_true]at hgo;have hm':=h4 rfl;subst hm'
       replace hk':(match Nat.beq m l with | true=>K (.slice (some ⟨i,0,some 1⟩) 0 0) | false=>(lD Sz i fun _ e ck=>match ck,cN P e with | .exact,_=>false | _,some q=>(match Nat.beq q size with | true=>K (.slice (some ⟨i,o+l*size,some 0⟩) (h'-l) (m-l)) | false=>false) | _,none=>false))=true:=hk'
       split at hk'
       ·rename_i hml
        have hml:=Nat.eq_of_beq_eq_true hml;have e0:h'-l=0:=by omega
        refine⟨_,.slice (some (if c'=l then⟨L.b,L.s+o,none⟩else(⟨L.b,L.s+o,none⟩:Addr).add (l*size))) 0 (c'-l),hk',.uM,fun w=>?_⟩;rw [hgo w,e0]
       ·rename_i hml
        have hml:m≠l:=fun e=>by subst e;simp at hml
        obtain⟨vs,e',ck,ho,hk'⟩:=kX hk';obtain⟨cs,tt,fz,hb,_,hkind⟩:=h.cells ho hL;cases hq:cN P e' with
        | none=>rw [hq]at hk';cases ck<;>cases hk'
        | some q=>
         rw [hq]at hk';have hne:ck≠ .exact:=by rintro rfl;cases hk'
         have hk2:(match Nat.beq q size with | true=>K (.slice (some ⟨i,o+l*size,some 0⟩) (h'-l) (m-l)) | false=>false)=true:=by cases ck<;>first | exact hk' | exact absurd rfl hne
         split at hk2
         ·rename_i hqs
          have hqs:=Nat.eq_of_beq_eq_true hqs;subst hqs
          have hm:L.m=q:=by
           cases ck with
           | exact=>exact absurd rfl hne
           | grown _=>obtain⟨_,_,_,h5,_⟩:=hkind;rw [hq]at h5;injection h5 with h5;exact h5.symm
           | stale=>obtain⟨_,h5,_⟩:=hkind;rw [hq]at h5;injection h5 with h5;exact h5.symm
           | ro=>have h5:cN P e'=some L.m:=hkind;rw [hq]at h5;injection h5 with h5;exact h5.symm
           | rs=>have h5:=hkind.1;rw [hq]at h5;injection h5 with h5;exact h5.symm
          refine⟨_,.slice (some ⟨L.b,L.s+(o+l*q),none⟩) (h'-l) (c'-l),hk2,(.lU hL (by omega) (by omega) ?_ hmp),fun w=>by rw [hgo w,if_neg (by omega),iC,Nat.add_assoc]⟩;rw [hm]at hend ⊢;have:l*q+(c'-l)*q=c'*q:=by rw [<-Nat.add_mul];congr 1;omega
          omega
         ·cases hk2
     | @uM _ c' a=>
      have e0:l=0/\h'=0/\m=0:=by omega
      obtain⟨rfl,rfl,rfl⟩:=e0;have hgo:=go a c' (Nat.zero_le _)
      replace hk':K (.slice (some ⟨i,0,some 1⟩) 0 0)=true:=hk'
      refine⟨_,.slice (some a) 0 ((if mx'=none then c' else 0)-0),hk',.uM,fun w=>?_⟩;rw [hgo w];simp [Addr.add]
     | @uN _ _ s sp2 hs2=>
      have e0:l=0/\h'=0/\m=0:=by omega
      obtain⟨rfl,rfl,rfl⟩:=e0;have hgo:=go ⟨i,o,sp2⟩ 0 (Nat.zero_le _)
      replace hk':K (.slice (some ⟨i,0,some 1⟩) 0 0)=true:=hk'
      refine⟨_,.slice (some ⟨i,o,sp2⟩) 0 ((if mx'=none then 0 else 0)-0),hk',.uM,fun w=>?_⟩;rw [hgo w];simp []
    ·cases hk
   ·cases hk
 ·
   rename_i i o;split at hk
   ·rename_i n e hu
    split at hk
    ·rename_i size hsz
     obtain⟨l,h',m,hk',h1,h2,h3,h4,hrun⟩:=xB (P:=P) hk hl hh hm;simp only [dE]at hk';clear hk
     have em:(if mx'=none then n else m)=m:=by
      split
      ·rename_i e2;exact(h4 (hmm e2)).symm
      ·rfl
     cases hx with
     | flat h=>simp [cD]at h
     | @ptr _ _ L hL=>
      have hgo:∀w,(Instr.sliceAt t (.pointer (some ⟨L.b,L.s+o,none⟩)) lo' hi' mx').run P w= .ok (.slice (some (if m=l then⟨L.b,L.s+o,none⟩else(⟨L.b,L.s+o,none⟩:Addr).add (l*size))) (h'-l) (m-l)) w:=by
       intro w;have:=hrun n (Nat.le_refl _) hmm false w hmh;rw [em]at this;simp [Instr.sliceAt,run_underlying hu,Instr.sureAddr,this,fU hsz]
      split at hk'
      ·rename_i hml
       have hml:=Nat.eq_of_beq_eq_true hml;exact⟨_,_,hk',.slice hL,fun w=>by rw [hgo w,if_pos hml]⟩
      ·rename_i hml
       have hml:m≠l:=fun e=>by subst e;simp at hml
       exact⟨_,_,hk',.slice hL,fun w=>by rw [hgo w,if_neg hml,iC,Nat.add_assoc]⟩
    ·cases hk
   ·cases hk
 ·cases hk
end mem
section mem
variable{P:Program}{w0:World}{U:Rn}{Sz:St}{w:World}
theorem VR.iN{i o:Nat}{sp:Option Nat}{n c:Nat}{v':Value} (h:VR U (.slice (some ⟨i,o,sp⟩) n c) v'):
 (∃L c',U i=some L/\v'= .slice (some ⟨L.b,L.s+o,none⟩) n c'/\((sp=none/\c'=c)\/(sp=some 0/\c<=c'/\n<=c/\L.s+o+c'*L.m=L.e/\0<L.m)))\/((∃s,sp=some (s+1))/\n=0/\c=0/\∃a c',v'= .slice (some a) 0 c'):=by
 cases h with
 | flat h=>simp [cD]at h
 | slice hL=>exact .inl ⟨_,_,hL,rfl,.inl ⟨rfl,rfl⟩⟩
 | lU hL hc hn he hm=>exact .inl ⟨_,_,hL,rfl,.inr ⟨rfl,hc,hn,he,hm⟩⟩
 | uM=>exact .inr ⟨⟨_,rfl⟩,rfl,rfl,_,_,rfl⟩
 | uN _=>exact .inr ⟨⟨_,rfl⟩,rfl,rfl,_,_,rfl⟩
theorem VR.sV{i o:Nat}{sp:Option Nat}{v':Value} (h:VR U (.pointer (some ⟨i,o,sp⟩)) v'):sp=none/\∃L,U i=some L/\v'= .pointer (some ⟨L.b,L.s+o,none⟩):=by
 cases h with
 | flat h=>simp [cD]at h
 | ptr hL=>exact⟨rfl,_,hL,rfl⟩
theorem DQ{t:TypeId}{x x' ix ix':Value}{K:Value->Bool} (hk:wB P t x ix K=true) (hx:VR U x x') (hi:VR U ix ix'):
 ∃v v',K v=true/\VR U v v'/\∀w,(Instr.indexAt t x' ix').run P w= .ok v' w:=by
 unfold wB at hk;split at hk
 ·rename_i kd j
  rw [hi.of_flat rfl];split at hk
  ·rename_i b o sp len c
   rcases hx.iN with ⟨L,c',hL,rfl,hsp⟩ | ⟨⟨_,rfl⟩,_⟩
   ·have hk2:(match isSlice P t with
     | some elem=>(match cN P elem,Nat.blt j len with
      | some size,true=>dW (o+j*size) fun o=>K (.pointer (some ⟨b,o,none⟩))
      | _,_=>false)
     | none=>false)=true:=by
     rcases hsp with ⟨rfl,_⟩ | ⟨rfl,_⟩<;>exact hk
    split at hk2
    ·rename_i e he
     have hu:=eR he;split at hk2
     ·rename_i size hsz hj
      have hj:j<len:=Nat.le_of_ble_eq_true hj;rw [dE]at hk2;refine⟨_,_,hk2,.ptr hL,fun w=>?_⟩;simp [Instr.indexAt,asIntOf,run_underlying hu,hj,fU hsz,iC,Nat.add_assoc]
     ·cases hk2
    ·cases hk2
   ·cases hk
  ·rename_i b o
   obtain⟨_,L,hL,rfl⟩:=hx.sV;split at hk
   ·rename_i len e hu
    split at hk
    ·rename_i size hsz hj
     have hj:j<len:=Nat.le_of_ble_eq_true hj;rw [dE]at hk;refine⟨_,_,hk,.ptr hL,fun w=>?_⟩;simp [Instr.indexAt,asIntOf,run_underlying hu,Instr.sureAddr,hj,fU hsz,iC,Nat.add_assoc]
    ·cases hk
   ·cases hk
  ·cases hk
 ·cases hk
theorem OF{s:TypeId}{f:Nat}{fd:Field} (h:zQ P s f=some fd):∃fs,P.underlying s=some (.struct fs)/\fs[f]? =some fd:=by
 unfold zQ at h;split at h
 ·rename_i fs hu;exact⟨fs,hu,h⟩
 ·cases h
theorem DR{s:TypeId}{x x':Value}{f:Nat}{K:Value->Bool} (hk:wC P s x f K=true) (hx:VR U x x'):
 ∃v v',K v=true/\VR U v v'/\∀w,(Instr.fieldAt s x' f).run P w= .ok v' w:=by
 unfold wC at hk;split at hk
 ·rename_i b o
  obtain⟨_,L,hL,rfl⟩:=hx.sV;split at hk
  ·rename_i fd hf
   obtain⟨fs,hu,hfs⟩:=OF hf;split at hk
   ·rename_i q hsz
    rw [dE]at hk;refine⟨_,_,hk,.ptr hL,fun w=>?_⟩;simp [Instr.fieldAt,run_underlying hu,hfs,Instr.sureAddr,fieldPlace,fU hsz,iC,Nat.add_assoc]
   ·cases hk
  ·cases hk
 ·cases hk
theorem TN{t:TypeId}{cs:List Value}{cs':Array Value}{off:Nat}{K:Value->Bool} (hk:Cg P t cs off K=true) (hcs:gO U cs cs'.toList):
 ∃v v',K v=true/\VR U v v'/\∀w,(part t cs' off).run P w= .ok v' w:=by
 unfold Cg at hk;split at hk
 ·rename_i hagg
  obtain⟨v,hv,hk⟩:=DS hk;obtain⟨v',hv',hr⟩:=hcs.get hv;rw [Array.getElem?_toList]at hv';exact⟨v,v',hk,hr,fun w=>by simp [part,AN hagg,hv']⟩
 ·rename_i hagg
  split at hk
  ·rename_i n hsz
   rw [eH]at hk;split at hk
   ·rw [fL]at hk
    split at hk
    ·rename_i h1 h2
     refine⟨_,.agg ⟨(cs'.toList.drop off).take n⟩,hk,.Eb ((hcs.drop off).take n),fun w=>?_⟩
     have:cs'.extract off (off+n)=⟨(cs'.toList.drop off).take n⟩:=by
      apply Array.toList_inj.1;simp [Array.toList_extract,List.extract_eq_take_drop]
     simp [part,AN hagg,fU hsz,this]
    ·cases hk
   ·cases hk
  ·cases hk
 ·cases hk
theorem OG{t:TypeId}{x x':Value}{f:Nat}{K:Value->Bool} (hk:IE P t x f K=true) (hx:VR U x x'):
 ∃v v',K v=true/\VR U v v'/\∀w,(Instr.field t x' f).run P w= .ok v' w:=by
 unfold IE at hk;split at hk
 ·rename_i cs
  obtain⟨cs',rfl,hcs⟩:=hx.FL;split at hk
  ·rename_i fd hf
   obtain⟨fs,hu,hfs⟩:=OF hf;obtain⟨v,v',h1,h2,h3⟩:=TN hk hcs;exact⟨v,v',h1,h2,fun w=>by simp [Instr.field,run_underlying hu,hfs,asAgg,h3]⟩
  ·cases hk
 ·cases hk
theorem OH{t:TypeId}{x x' ix ix':Value}{K:Value->Bool} (hk:RM P t x ix K=true) (hx:VR U x x') (hi:VR U ix ix'):
 ∃v v',K v=true/\VR U v v'/\∀w,(Instr.index t x' ix').run P w= .ok v' w:=by
 unfold RM at hk;split at hk
 ·rename_i kd j
  rw [hi.of_flat rfl];split at hk
  ·rename_i cs
   obtain⟨cs',rfl,hcs⟩:=hx.FL;split at hk
   ·rename_i len e hu
    split at hk
    ·rename_i size hsz hj
     have hj:j<len:=Nat.le_of_ble_eq_true hj;obtain⟨v,v',h1,h2,h3⟩:=TN hk hcs;exact⟨v,v',h1,h2,fun w=>by simp [Instr.index,asIntOf,run_underlying hu,hj,fU hsz,h3]⟩
    ·cases hk
   ·cases hk
  ·rename_i s
   rw [hx.of_flat rfl];split at hk
   ·rename_i hu
    obtain⟨b,hb,hk⟩:=DS hk;rw [dE]at hk;refine⟨_,_,hk,.flat rfl,fun w=>?_⟩
    have hb':s[j]? =some b:=by
     rw [Array.getElem?_toList]at hb;obtain⟨h1,h2⟩:=Array.getElem?_eq_some_iff.1 hb;have h3:j<s.size:=h1;rw [getElem?_pos s j h3]
     congr 1
    simp [Instr.index,asIntOf,run_underlying hu,hb']
   ·cases hk
  ·cases hk
 ·cases hk
theorem Ec (l:List Value):∀(off n:Nat) (cs:Array Value),off+n+l.length<=cs.size->
 ((l.zipIdx n).foldl (fun cs (x:Value×Nat)=>cs.setIfInBounds (off+x.2) x.1) cs).toList=splice (off+n) l cs.toList:=by
 induction l with
 | nil=>intro off n cs _;simp [splice]
 | cons v l ih=>
  intro off n cs h;simp only [List.zipIdx_cons,List.foldl_cons];rw [ih off (n+1) _ (by simp at h ⊢;omega)];apply List.ext_getElem?;intro j;have hl:cs.toList.length=cs.size:=rfl;rw [oN _ _ _ (by simp at h ⊢;omega),oN _ _ _ (by simp at h ⊢;omega)];simp only [Array.toList_setIfInBounds,List.length_cons];by_cases h2:j=off+n
  ·subst h2
   rw [if_neg (by omega),if_pos (by omega),Nat.sub_self];have:off+n<cs.size:=by simp at h;omega
   simp [this]
  ·by_cases h3:off+(n+1)<=j/\j<off+(n+1)+l.length
   ·rw [if_pos h3,if_pos (by omega)]
    obtain⟨q,rfl⟩:∃q,j=off+n+(q+1):=⟨j-(off+n+1),by omega⟩;rw [show off+n+(q+1)-(off+(n+1))=q by omega,show off+n+(q+1)-(off+n)=q+1 by omega];simp
   ·rw [if_neg h3,if_neg (by omega),List.getElem?_set_ne (by omega)]
def XM (U:Rn) (l l':List (Nat×Value)):Prop:=l.length=l'.length/\∀(k:Nat) (p p':Nat×Value),l[k]? =some p->l'[k]? =some p'->p.1=p'.1/\VR U p.2 p'.2
theorem XM.dI{p:Nat×Value}{l l':List (Nat×Value)} (h:XM U (p::l) l'):∃p' t',l'=p'::t'/\p.1=p'.1/\VR U p.2 p'.2/\XM U l t':=by
 cases l' with
 | nil=>have:=h.1;simp at this
 | cons p' t'=>
  obtain⟨h1,h2⟩:=h.2 0 p p' rfl rfl;exact⟨p',t',rfl,h1,h2,by simpa using h.1,fun k q q' a b=>h.2 (k+1) q q' (by simpa using a) (by simpa using b)⟩
theorem BZ{place place':Nat->Option (Nat×Nat)} (hpl:∀i q,place i=some q->place' i=some q):∀{parts parts':List (Nat×Value)} {cells:List Value} {cells':Array Value} {k:List Value->Bool},
 MB place parts cells k=true->XM U parts parts'->gO U cells cells'.toList->∃out out',k out=true/\Instr.fill place' cells' parts'=some out'/\gO U out out'.toList/\out.length=cells.length:=by
 intro parts;induction parts with
 | nil=>
  intro parts' cells cells' k hk hp hc;have:parts'=[]:=List.eq_nil_of_length_eq_zero hp.1.symm;subst this;exact⟨cells,cells',hk,rfl,hc,rfl⟩
 | cons p parts ih=>
  intro parts' cells cells' k hk hp hc;obtain⟨p',t',rfl,h1,h2,ht⟩:=hp.dI
  have hk':(match place p.1 with
   | some (off,size)=>iB p.2 fun new=>mJ new fun m=>match Nat.beq m size with
    | true=>iA off new cells fun cs=>MB place parts cs k
    | false=>false
   | none=>false)=true:=hk
  split at hk'
  ·rename_i off size hq
   obtain⟨new,hk',hone,hnew,_⟩:=wY hk' h2;rw [cV]at hk';split at hk'
   ·rename_i hm
    have hm:=Nat.eq_of_beq_eq_true hm;rw [gS]at hk';split at hk'
    ·rename_i hlen
     have hsz:p'.2.cells.size=size:=by rw [<-hm,hnew.1];rfl
     have hcl:cells.length=cells'.size:=hc.1;have hnl:new.length=p'.2.cells.size:=hnew.1
     have e1:(p'.2.cells.zipIdx.foldl (fun cs (x:Value×Nat)=>cs.setIfInBounds (off+x.2) x.1) cells').toList=splice off p'.2.cells.toList cells'.toList:=by
      rw [<-Array.foldl_toList,Array.toList_zipIdx];exact Ec p'.2.cells.toList off 0 cells' (by have:p'.2.cells.toList.length=p'.2.cells.size:=rfl;omega)
     obtain⟨out,out',g1,g2,g3,g4⟩:=ih (cells':=p'.2.cells.zipIdx.foldl (fun cs (x:Value×Nat)=>cs.setIfInBounds (off+x.2) x.1) cells') hk' ht (by rw [e1];exact hc.splice hnew off);refine⟨out,out',g1,?_,g3,by rw [g4,mK _ _ _ hlen]⟩;obtain⟨i',v'⟩:=p';simp only at h1;simp only [Instr.fill,<-h1,hpl _ _ hq];have c1:(v'.cells.size != size)=false:=by simp;exact hsz
     have c2:¬off+v'.cells.size>cells'.size:=by
      have:v'.cells.size=new.length:=by rw [hnl]
      omega
     rw [if_neg (by simp;have:v'.cells.size=new.length:=by rw [hnl]
                    omega)]
     exact g2
    ·cases hk'
   ·cases hk'
  ·cases hk'
end mem
section mem
variable{P:Program}{w0:World}{U:Rn}{Sz:St}{w:World}
theorem zR (h:Rel P w0 U Sz w){A:bG}{a:Act} (hA:tE P U A a):∀{parts:List (Nat×Operand)} {k:List (Nat×Value)->Bool},yO A parts k=true->
 ∃ps,k ps=true/\XM U ps (parts.map fun p=>(p.1,a.eval p.2)):=by
 intro parts;induction parts with
 | nil=>intro k hk;exact⟨[],hk,rfl,by simp⟩
 | cons p parts ih=>
  intro k hk;obtain⟨v,hv,hr⟩:=aO h hA (show rK A p.2 (fun v=>yO A parts fun l=>k ((p.1,v)::l))=true from hk);obtain⟨ps,hps,hrs⟩:=ih hv;refine⟨(p.1,v)::ps,hps,by simp [hrs.1],fun j q q' x y=>?_⟩;cases j with
  | zero=>simp at x y;subst x y;exact⟨rfl,hr⟩
  | succ j=>simp at x;exact hrs.2 j q q' x (by simpa using y)
theorem Ed:∀(fs:List Field) (pl:List (Nat×Nat)),placesOf P fs=some pl->∀w,(fs.mapM (fun f=>(do pure (f.offset,<-sizeOf f.type):Sem (Nat×Nat)))).run P w= .ok pl w:=by
 intro fs;induction fs with
 | nil=>intro pl h w;simp [placesOf]at h;subst h;rfl
 | cons f fs ih=>
  intro pl h w;simp only [placesOf,List.mapM_cons]at h;cases hs:cN P f.type with
  | none=>simp [hs]at h
  | some s=>
   cases hp:fs.mapM (fun f=>(cN P f.type).map fun s=>(f.offset,s))with
   | none=>simp [hs,hp]at h
   | some pl'=>
    simp [hs,hp]at h;subst h;have:=ih pl' hp w;simp only [List.mapM_cons,Sem.run_bind,fU hs,Result.andThen_ok,Sem.run_pure,this]
theorem OI (h:Rel P w0 U Sz w){A:bG}{a:Act} (hA:tE P U A a){t:TypeId}{parts:Array (Nat×Operand)}{K:Value->Bool} (hk:XG P A t parts.toList K=true):
 ∃v v',K v=true/\VR U v v'/\∀w,(Instr.build t (parts.map fun p=>(p.1,a.eval p.2))).run P w= .ok v' w:=by
 unfold XG at hk;split at hk
 ·rename_i zero fields hz hu
  split at hk
  ·rename_i pl hpl
   split at hk
   ·rename_i TO
    obtain⟨ps,hk,hps⟩:=zR h hA hk;have Hr:gO U zero zero:= .flat (by rw [jW]at TO;exact List.all_eq_true.1 TO);obtain⟨out,out',g1,g2,g3,_⟩:=BZ (place':=(pl.toArray[·]?)) (cells':=⟨zero⟩) (by intro i q hq;simpa using hq) hk hps Hr;refine⟨_,.agg out',g1,.Eb g3,fun w=>?_⟩;obtain⟨zv,hz1,hz2⟩:=wD hz w;have ez:zv.cells=⟨zero⟩:=Array.toList_inj.1 hz2;have hpr:=Ed fields.toList pl hpl w
    have aFG:(fields.mapM (fun f=>(do pure (f.offset,<-sizeOf f.type):Sem (Nat×Nat)))).run P w= .ok pl.toArray w:=by
     rw [Array.mapM_eq_mapM_toList,Sem.run_map,hpr];rfl
    simp only [Instr.build,Sem.run_bind,hz1,Result.andThen_ok,run_underlying hu,aFG,ez];have e2:(parts.map fun p=>(p.1,a.eval p.2)).toList=parts.toList.map fun p=>(p.1,a.eval p.2):=by simp
    rw [e2,g2];rfl
   ·cases hk
  ·cases hk
 ·rename_i zero n elem hz hu
  split at hk
  ·rename_i size hsz
   split at hk
   ·rename_i TO
    obtain⟨ps,hk,hps⟩:=zR h hA hk;have Hr:gO U zero zero:= .flat (by rw [jW]at TO;exact List.all_eq_true.1 TO);obtain⟨out,out',g1,g2,g3,_⟩:=BZ (place':=fun i=>some (i*size,size)) (cells':=⟨zero⟩) (by intro i q hq;exact hq) hk hps Hr;refine⟨_,.agg out',g1,.Eb g3,fun w=>?_⟩;obtain⟨zv,hz1,hz2⟩:=wD hz w;have ez:zv.cells=⟨zero⟩:=Array.toList_inj.1 hz2;have e2:(parts.map fun p=>(p.1,a.eval p.2)).toList=parts.toList.map fun p=>(p.1,a.eval p.2):=by simp
    simp only [Instr.build,Sem.run_bind,hz1,Result.andThen_ok,run_underlying hu,fU hsz,ez];rw [e2,g2];rfl
   ·cases hk
  ·cases hk
 ·cases hk
theorem Rel.KY (h:Rel P w0 U Sz w){cs cs':List Value} (hcs:gO U cs cs') (t:TypeId){K:Nat->St->Bool} (hk:qZ Sz (.cells cs t .exact) K=true):
 ∃U' S' w',K Sz.n S'=true/\w'=w.alloc (.cells ⟨cs'⟩ t)/\Rel P w0 U' S' w'/\Stp U w U' w'/\∃L,U' Sz.n=some L/\L.b=w.heap.size/\L.s=0:=by
 rw [gE]at hk;obtain⟨h1,h2⟩:=h.Wv hcs t 0;exact⟨_,_,_,hk,rfl,h1,h2,_,Rn.iV _ _ _,rfl,rfl⟩
theorem Rel.aA9 (h:Rel P w0 U Sz w) (ob:Obj){K:Nat->St->Bool} (hk:qZ Sz .dead K=true):
 ∃U' S' w',K Sz.n S'=true/\w'=w.alloc ob/\Rel P w0 U' S' w'/\Stp U w U' w'/\∃L,U' Sz.n=some L/\L.b=w.heap.size/\L.s=0:=by
 rw [gE]at hk;obtain⟨h1,h2⟩:=h.new .dead ob ⟨w.heap.size,0,0,0⟩ rfl (fun _ _ _=>trivial) (fun _ hi=>nomatch hi);exact⟨_,_,_,hk,rfl,h1,h2,_,Rn.iV _ _ _,rfl,rfl⟩
theorem VR.aCS{i:Nat}{L:Loc} (h:U i=some L){b:Nat} (hb:L.b=b) (hs:L.s=0):VR U (.pointer (some ⟨i,0,none⟩)) (.pointer (some ⟨b,0,none⟩)):=by
 have:=VR.ptr (o:=0) h;rw [hb,hs]at this;exact this
theorem VR.XN{i:Nat}{L:Loc} (h:U i=some L){b:Nat} (hb:L.b=b) (hs:L.s=0) (n c:Nat):VR U (.slice (some ⟨i,0,none⟩) n c) (.slice (some ⟨b,0,none⟩) n c):=by
 have:=VR.slice (o:=0) (n:=n) (c:=c) h;rw [hb,hs]at this;exact this
theorem Mj (h:Rel P w0 U Sz w){t:TypeId}{x x':Value}{K:VK} (hk:iP t x Sz K=true) (hx:VR U x x'):
 ∃U' v S' v' w',K v S'=true/\(Instr.box t x').run P w= .ok v' w'/\VR U' v v'/\Rel P w0 U' S' w'/\Stp U w U' w':=by
 unfold iP at hk;obtain⟨cs,hk,_,hcs,_⟩:=wY hk hx;obtain⟨U',S',w',hk,hw,h1,h2,L,hL,hb,hs⟩:=h.KY hcs t hk;exact⟨U',_,S',_,w',hk,by subst hw;simp [Instr.box,newVar,newRow],.aCS hL hb hs,h1,h2⟩
theorem Ee (h:Rel P w0 U Sz w){t:TypeId}{K:VK} (hk:MZ P t Sz K=true):
 ∃U' v S' v' w',K v S'=true/\(Instr.alloc t true (.tuple #[])).run P w= .ok v' w'/\VR U' v v'/\Rel P w0 U' S' w'/\Stp U w U' w':=by
 unfold MZ at hk;split at hk
 ·rename_i zero hz
  split at hk
  ·rename_i TO
   rw [Qc]at hk;have Hr:gO U zero zero:= .flat (by rw [jW]at TO;exact List.all_eq_true.1 TO);obtain⟨U',S',w',hk,hw,h1,h2,L,hL,hb,hs⟩:=h.KY Hr t hk;obtain⟨zv,hz1,hz2⟩:=wD hz w;have ez:zv.cells=⟨zero⟩:=Array.toList_inj.1 hz2;exact⟨U',_,S',_,w',hk,by subst hw;simp [Instr.alloc,hz1,newVar,newRow,ez],.aCS hL hb hs,h1,h2⟩
  ·cases hk
 ·cases hk
theorem XO{t:TypeId}{z:List Value} (h:BX P t=some z){i:TypeInfo} (hi:P.info? t=some i):∃v,i.zero=some v/\v.cells.toList=z:=by
 unfold BX at h;rw [hi]at h;cases hz:i.zero with
 | none=>simp [hz]at h
 | some v=>simp [hz]at h;exact⟨v,rfl,h⟩
theorem DT (zero:List Value) (z:Array Value) (hz:z.toList=zero) (n:Nat) (h0:zero≠[]):(Array.range (n*zero.length)).map (fun i=>z[i%z.size]!)=⟨(List.replicate n zero).flatten⟩:=by
 apply Array.toList_inj.1;have hsz:z.size=zero.length:=by rw [<-hz];rfl
 have hpos:0<zero.length:=List.length_pos_iff.2 h0;apply List.ext_getElem?;intro j;simp only [Array.toList_map,Array.toList_range,hsz];have hlen:(List.replicate n zero).flatten.length=n*zero.length:=by simp
 by_cases hj:j<n*zero.length
 ·rw [List.getElem?_map,List.getElem?_range hj]
  have hm:j%zero.length<zero.length:=Nat.mod_lt _ hpos
  have e1:z[j%zero.length]! =zero[j%zero.length]:=by
   rw [getElem!_pos z _ (by omega)];subst hz;rfl
  have e2:∀n j,j<n*zero.length->(List.replicate n zero).flatten[j]? =some (zero[j%zero.length]'(Nat.mod_lt _ hpos)):=by
   intro n;induction n with
   | zero=>intro j hj;simp at hj
   | succ n ih=>
    intro j hj;simp only [List.replicate_succ,List.flatten_cons];by_cases h1:j<zero.length
    ·rw [List.getElem?_append_left h1,List.getElem?_eq_getElem h1]
     congr 1;simp [Nat.mod_eq_of_lt h1]
    ·rw [List.getElem?_append_right (by omega),ih (j-zero.length) (by rw [Nat.succ_mul]at hj;omega)]
     congr 1
     simp only [Nat.mod_eq_sub_mod (show j>=zero.length by omega)]
  rw [e2 n j hj];simp [e1]
 ·rw [List.getElem?_eq_none (by simp;omega),List.getElem?_eq_none (by rw [hlen];omega)]
theorem RO (h:Rel P w0 U Sz w){t:TypeId}{l l' c c':Value}{K:VK} (hk:qI P t l c Sz K=true) (hl:VR U l l') (hc:VR U c c'):
 ∃U' v S' v' w',K v S'=true/\(Instr.makeSlice t l' c').run P w= .ok v' w'/\VR U' v v'/\Rel P w0 U' S' w'/\Stp U w U' w':=by
 unfold qI at hk;split at hk
 ·rename_i k1 l k2 c
  rw [hl.of_flat rfl,hc.of_flat rfl];split at hk
  ·rename_i elem he
   have hu:=eR he;split at hk
   ·rename_i info zero hi hz
    split at hk
    ·rename_i q h1 h2 h3 h4 h5
     have h1:=Nat.le_of_ble_eq_true h1;have h2:=Nat.le_of_ble_eq_true h2;have h3:=Nat.le_of_ble_eq_true h3;have h4:=Nat.eq_of_beq_eq_true h4;split at hk
     ·rename_i TO
      obtain⟨zv,hzi,hz2⟩:=XO hz hi;have hne:zero≠[]:=by intro e;rw [e]at h4;simp at h4;omega
      have hzs:=DT zero zv.cells hz2 c hne
      have h2':(info.bytes:Int)*(c:Int)<=1099511627776:=by
       have:((info.bytes*c:Nat):Int)<=1099511627776:=by omega
       rwa [Int.natCast_mul]at this
      have hr:=run_make (P:=P) w t elem info zv hu hi hzi k1 k2 l c (by omega) (by omega) (by omega) (by omega);simp only [Int.toNat_natCast]at hr;have hm:madeCells zv.cells (c*info.size)=⟨(List.replicate c zero).flatten⟩:=by rw [<-hzs,h4];rfl
      split at hk
      ·rw [CA]at hk
       have Hr:gO U zero zero:= .flat (by rw [jW]at TO;exact List.all_eq_true.1 TO);obtain⟨U',S',w',hk,hw,g1,g2,L,hL,hb,hs⟩:=h.KY (Hr.flatten c) elem hk;refine⟨U',_,S',_,w',hk,hr.trans ?_,.XN hL hb hs l c,g1,g2⟩;rw [hw,hm]
      ·obtain⟨U',S',w',hk,hw,g1,g2,L,hL,hb,hs⟩:=h.aA9 (.cells ⟨(List.replicate c zero).flatten⟩ elem) hk
       refine⟨U',_,S',_,w',hk,hr.trans ?_,.XN hL hb hs l c,g1,g2⟩;rw [hw,hm]
     ·cases hk
    ·cases hk
   ·cases hk
  ·cases hk
 ·cases hk
end mem
section mem
variable{P:Program}{w0:World}{U:Rn}{Sz:St}{w:World}
theorem OJ (h:Rel P w0 U Sz w){A:bG}{a:Act} (hA:tE P U A a){t:TypeId}{len:Nat}{parts:Array (Nat×Operand)}{K:VK} (hk:tQ P A t len parts.toList Sz K=true):
 ∃U' v S' v' w',K v S'=true/\(Instr.buildSlice t len (parts.map fun p=>(p.1,a.eval p.2))).run P w= .ok v' w'/\VR U' v v'/\Rel P w0 U' S' w'/\Stp U w U' w':=by
 unfold tQ at hk;split at hk
 ·rename_i elem he
  have hu:=eR he;split at hk
  ·rename_i size zero hsz hz
   split at hk
   ·rename_i h1 h2
    have h1:=Nat.le_of_ble_eq_true h1;have h2:=Nat.eq_of_beq_eq_true h2;split at hk
    ·rename_i TO
     have Hr:gO U zero zero:= .flat (by rw [jW]at TO;exact List.all_eq_true.1 TO);rw [CA]at hk;obtain⟨ps,hk,hps⟩:=zR h hA hk;obtain⟨out,out',g1,g2,g3,_⟩:=BZ (place':=fun i=>some (i*(size+1),size+1)) (cells':=⟨(List.replicate len zero).flatten⟩) (by intro i q hq;exact hq) hk hps (Hr.flatten len);obtain⟨U',S',w',hk,hw,r1,r2,L,hL,hb,hs⟩:=h.KY g3 elem g1;refine⟨U',_,S',_,w',hk,?_,.XN hL hb hs len len,r1,r2⟩;obtain⟨zv,hz1,hz2⟩:=wD hz w;have hne:zero≠[]:=by intro e;rw [e]at h2;simp at h2
     have e2:(parts.map fun p=>(p.1,a.eval p.2)).toList=parts.toList.map fun p=>(p.1,a.eval p.2):=by simp
     have hc:¬len*(size+1)>2 ^ 24:=by omega
     rw [hw];by_cases h0:len*(size+1)=0
     ·have hl0:len=0:=by
       rcases Nat.mul_eq_zero.1 h0 with h0 | h0
       ·exact h0
       ·omega
      subst hl0;have e3:(⟨(List.replicate 0 zero).flatten⟩:Array Value)= #[]:=by simp
      rw [e3]at g2;have e4:∀f:Nat->Value,(Array.range 0).map f= #[]:=fun f=>by simp
      simp only [Instr.buildSlice,Sem.run_bind,run_underlying hu,Result.andThen_ok,fU hsz,Nat.zero_mul,e4,e2,g2,newRow];rfl
     ·have hzs:=DT zero zv.cells hz2 len hne
      rw [h2]at hzs;simp only [Instr.buildSlice,Sem.run_bind,run_underlying hu,Result.andThen_ok,fU hsz,if_neg hc,if_neg h0,hz1,Sem.run_pure,hzs,e2,g2,newRow];rfl
    ·cases hk
   ·cases hk
  ·cases hk
 ·cases hk
end mem
section conv
variable{P:Program}{w0:World}{U:Rn}{Sz:St}{w:World}
theorem Ef (l:List UInt8) (k:List Value->Bool):Wt l k=k (l.map fun b=> .int .u8 (b.toNat:Int)):=by
 induction l generalizing k with
 | nil=>rfl
 | cons b l ih=>
  show dW b.toNat (fun n=>Wt l fun t=>k (.int .u8 (.ofNat n)::t))=_;rw [dE,ih];rfl
theorem TP:∀{l:List Value} {k:List UInt8->Bool},XI l k=true->∃ns:List Nat,k (ns.map UInt8.ofNat)=true/\l=ns.map (fun n=> .int .u8 (.ofNat n)):=by
 intro l;induction l with
 | nil=>intro k hk;exact⟨[],hk,rfl⟩
 | cons v l ih=>
  intro k hk;unfold XI at hk;rw [cE]at hk;split at hk
  ·rename_i n
   obtain⟨ns,h1,h2⟩:=ih (k:=fun t=>k (UInt8.ofNat n::t)) hk;exact⟨n::ns,h1,by rw [h2];rfl⟩
  ·cases hk
theorem gO.Eg{l l':List Value} (h:gO U l l') (hf:∀v∈l,cD v=true):l'=l:=by
 apply List.ext_getElem?;intro k;cases hk:l[k]? with
 | none=>exact h.get_none hk
 | some x=>
  obtain⟨x',hx',hr⟩:=h.get hk;rw [hx',hr.of_flat (hf x (List.mem_of_getElem? hk))]
theorem Hs (h:Rel P w0 U Sz w){src dst:TypeId}{x x':Value}{K:VK} (hk:DP P src dst x Sz K=true) (hx:VR U x x'):
 ∃U' v S' v' w',K v S'=true/\(convert src dst x').run P w= .ok v' w'/\VR U' v v'/\Rel P w0 U' S' w'/\Stp U w U' w':=by
 unfold DP at hk;split at hk
 ·rename_i kd n
  cases hx.of_flat rfl;split at hk
  ·rename_i d k hs hd
   unfold tD at hk;rw [iO,uO]at hk;refine⟨U,_,Sz,_,w,hk,?_,.flat rfl,h,.refl U w⟩;simp [convert,run_underlying hs,run_underlying hd,Conv.intToInt]
  ·cases hk
 ·rename_i s
  cases hx.of_flat rfl;split at hk
  ·rename_i hs hd
   refine⟨U,_,Sz,_,w,hk,?_,.flat rfl,h,.refl U w⟩;simp [convert,run_underlying hs,run_underlying hd]
  ·rename_i e hs hd
   split at hk
   ·rename_i he h1
    rw [Ef,cV,gE]at hk;have hcap:=grownCap_ge w s.size 0 e;generalize hcc:grownCap w s.size 0 e=cc at hcap
    let bs:List Value:=s.data.toList.map (fun b:UInt8=>Value.int .u8 (b.toNat:Int))
    let zs:List Value:=List.replicate (cc-s.size) (.int .u8 0)
    have hbl:bs.length=s.size:=by show(List.map _ _).length=_;rw [List.length_map];rfl
    have hzl:zs.length=cc-s.size:=List.length_replicate;have hrow:bytesRow s cc=⟨bs++zs⟩:=by apply Array.toList_inj.1;simp [bytesRow,bs,zs]
    have hsz:(bytesRow s cc).size=cc:=by rw [hrow];show(bs++zs).length=_;rw [List.length_append];omega
    have hfl:gO U bs bs:= .flat (by simp [bs,cD]);obtain⟨r1,r2⟩:=h.drew.Ht (more:=zs) hfl e h1 ((bytesRow s cc).size,(bytesRow s cc).size+1) (by intro x hx;rw [List.length_append]at hx;omega) [] (by simp);have hrun:=run_bytes_of_string w src dst e s hs hd he;rw [hcc,hrow]at hrun;rw [hrow]at r1 r2;refine⟨_,_,_,_,_,hk,hrun,?_,r1,(Stp.drew U w).trans r2⟩;have hL:=Rn.iV U Sz.n ⟨w.drew.heap.size,0,(bs++zs).length,1⟩;have:=VR.lU (o:=0) (n:=s.size) (c:=s.size) (c':=cc) hL hcap (Nat.le_refl _) (by simp only [List.length_append];omega) Nat.one_pos;rw [List.length_map];exact this
   ·cases hk
  ·cases hk
 ·rename_i n c
  cases hx.of_flat rfl;split at hk
  ·rename_i e hs hd
   split at hk
   ·rename_i he
    exact⟨U,_,Sz,_,w,hk,run_convert_bytes_nil w src e hs he _ _ dst hd,.flat rfl,h,.refl U w⟩
   ·cases hk
  ·cases hk
 ·rename_i i o sp len c
  split at hk
  ·cases hk
  ·rename_i e hs hd hsp
   split at hk
   ·rename_i he
    rcases hx.iN with ⟨L,c',hL,rfl,_⟩ | ⟨⟨s1,h1⟩,rfl,rfl,_⟩
    ·obtain⟨vs,e',ck,ho,hle,hk⟩:=wE hk
     obtain⟨l',hl',hlen,hc⟩:=h.wF ho hL hle;obtain⟨ns,hk,hns⟩:=TP hk;rw [hns]at hl';have hl'':l'=ns.map (fun n=> .int .u8 (.ofNat n)):=hl'.Eg (by simp [cD]);refine⟨U,_,Sz,_,w,hk,?_,.flat rfl,h,.refl U w⟩;rw [run_convert_bytes_string w src dst e _ _ _ hs he hd];have hld:=run_loadCells (P:=P) ⟨L.b,L.s+o,none⟩ l' hlen hc;rw [hl'']at hld;have e1:(⟨ns.map (fun n=>Value.int .u8 (.ofNat n))⟩:Array Value)=((ns.map Int.ofNat).map (Value.int .u8)).toArray:=by simp [List.map_map,Function.comp_def]
     rw [e1]at hld;rw [run_bytesToString w _ _ _ _ hld]
     congr 2
     have hf:∀(l:List Nat) (r:ByteArray),(l.map Int.ofNat).foldl (fun r (n:Int)=>r.push (UInt8.ofNat n.toNat)) r=⟨r.data++(l.map UInt8.ofNat).toArray⟩:=by
      intro l;induction l with
      | nil=>intro r;simp
      | cons b l ih=>intro r;simp only [List.map_cons,List.foldl_cons,ih];simp [ByteArray.push]
     rw [hf];have he0:ByteArray.empty.data= #[]:=rfl;rw [he0];simp
    ·subst h1;exact absurd rfl (hsp _)
   ·cases hk
  ·cases hk
 ·cases hk
end conv
end Go.Am
namespace Go.Am
open Go.RowKit Go.MapKept
section maps
variable{P:Program}{w0:World}{U:Rn}{Sz:St}{w:World}
theorem Rel.aEu (h:Rel P w0 U Sz w){i:Nat}{o o':fS} (ho:Sz.obj i=some o) (hd:o.qK=false) (hr:o.reads=false) (hol:o.olds=[]){L:Loc} (hL:U i=some L) (hb:w0.heap.size<=L.b)
 (aCT:o'.olds=[]) (ob:Obj) (lK:(w.putObj L.b ob).heap[L.b]? =some ob->wG P w0 U (w.putObj L.b ob) i o'):Rel P w0 U (Sz.set i o') (w.putObj L.b ob)/\Stp U w U (w.putObj L.b ob):=by
 have hlt:=h.loc i L hL;have lK:=lK (World.putObj_heap_same hlt)
 have hne:∀j x,j≠i->Sz.obj j=some x->x.qK=false->∀M,U j=some M->M.b≠L.b:=by
  intro j x hji hx hxd M hM e;rcases h.sep i j o x L M (Ne.symm hji) ho hx hd hxd hL hM e.symm with ⟨h1,_⟩ | h1 | h1
  ·rw [hr]at h1;cases h1
  ·rw [hol]at h1;cases h1
  ·cases x with
   | cells vs t k=>
    cases k with
    | grown olds=>
     obtain⟨_,h2⟩:=h.old j vs t olds hx i h1;rcases h2 o ho with h3 | ⟨ws,t',h3,_⟩
     ·rw [h3]at hd;cases hd
     ·rw [h3]at hr;cases hr
    | _=>cases h1
   | _=>cases h1
 have hcase:∀j x,(Sz.set i o').obj j=some x->(j=i/\x=o')\/(j≠i/\Sz.obj j=some x):=fun j x hx=>by
  rw [wZ]at hx;by_cases e:j=i
  ·rw [if_pos e]at hx;injection hx with hx;exact .inl ⟨e,hx.symm⟩
  ·rw [if_neg e]at hx;exact .inr ⟨e,hx⟩
 refine h.upd (S':=Sz.set i o') hb ⟨i,L,hL,rfl⟩ rfl (putObj_size _ _) (fun c hc=>uP hc) rfl rfl rfl (fun j x hx=>?_) (fun a b x y M N hab hx hy hxd hyd hM hN OK=>?_) (fun j vs e olds hj q hq=>?_)
 ·rcases hcase j x hx with ⟨rfl,rfl⟩ | ⟨e,hx⟩
  ·exact .inr (.inr ⟨h.lt j o ho,lK⟩)
  ·cases hxd:x.qK with
   | true=>exact .inl ⟨rfl,h.lt j x hx⟩
   | false=>exact .inr (.inl ⟨hx,hne j x e hx hxd⟩)
 ·rcases hcase a x hx with ⟨e1,_⟩ | ⟨ea,hx1⟩<;>rcases hcase b y hy with ⟨e2,_⟩ | ⟨eb,hy1⟩
  ·exact absurd (e1.trans e2.symm) hab
  ·rw [e1,hL]at hM;injection hM with hM;subst hM;exact absurd OK.symm (hne b y eb hy1 hyd N hN)
  ·rw [e2,hL]at hN;injection hN with hN;subst hN;exact absurd OK (hne a x ea hx1 hxd M hM)
  ·exact h.sep a b x y M N hab hx1 hy1 hxd hyd hM hN OK
 ·rcases hcase j _ hj with ⟨rfl,e2⟩ | ⟨e,hj⟩
  ·rw [<-e2]at aCT;simp only [fS.olds]at aCT;subst aCT;cases hq
  ·obtain⟨h1,h2⟩:=h.old j vs _ olds hj q hq
   refine⟨h1,fun x hx=>?_⟩;rcases hcase q x hx with ⟨rfl,rfl⟩ | ⟨e',hx⟩
   ·rcases h2 o ho with h3 | ⟨ws,t',h3,_⟩
    ·rw [h3]at hd;cases hd
    ·rw [h3]at hr;cases hr
   ·exact h2 x hx
theorem Sm{m:Value}{k:Option Nat->List MapEntry->Nat->Bool} (hk:aCR Sz m k=true):
 (m= .map none/\k none [] 0=true)\/∃r es c,m= .map (some r)/\Sz.obj r=some (.map es c)/\k (some r) es c=true:=by
 unfold aCR at hk;split at hk
 ·exact .inl ⟨rfl,hk⟩
 ·rename_i r
  rw [CB]at hk;cases ho:Sz.h.get r with
  | none=>rw [ho]at hk;cases hk
  | some o=>
   rw [ho]at hk;cases o with
   | map es c=>exact .inr ⟨r,es,c,rfl,ho,hk⟩
   | _=>cases hk
 ·cases hk
theorem VR.Eh{r:Nat}{v':Value} (h:VR U (.map (some r)) v'):∃L,U r=some L/\v'= .map (some L.b):=by
 cases h with
 | flat h=>simp [cD]at h
 | map h=>exact⟨_,h,rfl⟩
theorem Rel.map (h:Rel P w0 U Sz w){r:Nat}{es:List MapEntry}{c:Nat} (ho:Sz.obj r=some (.map es c)){L:Loc} (hL:U r=some L):∃es',w0.heap.size<=L.b/\w.heap[L.b]? =some (.map es' c)/\OL U es es'.toList:=by
 obtain⟨M,es',h1,h2,h3,h4⟩:=h.DU r _ ho;rw [hL]at h1;injection h1 with h1;subst h1;exact⟨es',h2,h3,h4⟩
end maps
section maps
variable{P:Program}{w0:World}{U:Rn}{Sz:St}{w:World}
theorem RP{t kt et:TypeId} (h:Dy P t=some (kt,et)):P.underlying t=some (.map kt et):=by
 unfold Dy at h;split at h
 ·rename_i hu;injection h with h;injection h with h1 h2;subst h1 h2;exact hu
 ·cases h
theorem MD (h:Rel P w0 U Sz w){t:TypeId}{x x' ix ix':Value}{ok:Bool}{K:VK} (hk:Px P t x ix ok Sz K=true) (hx:VR U x x') (hi:VR U ix ix'):
 ∃v v',K v Sz=true/\VR U v v'/\(Instr.lookup t x' ix' ok).run P w= .ok v' w:=absurd (show false=true from hk) (by decide)
theorem DV (h:Rel P w0 U Sz w){t:TypeId}{m m' key key' x x':Value}{k:St->Bool} (hk:XJ P t m key x Sz k=true) (hm:VR U m m') (hkey':VR U key key') (hx:VR U x x'):
 ∃S' w',k S'=true/\Rel P w0 U S' w'/\Stp U w U w'/\(Instr.mapUpdate t m' key' x').run P w= .ok () w':=absurd (show false=true from hk) (by decide)
theorem VE (h:Rel P w0 U Sz w){t:TypeId}{m m' key key':Value}{K:VK} (hk:Ch P t m key Sz K=true) (hm:VR U m m') (hkey':VR U key key'):
 ∃v S' v' w',K v S'=true/\VR U v v'/\Rel P w0 U S' w'/\Stp U w U w'/\(Instr.mapEntry t m' key').run P w= .ok v' w':=absurd (show false=true from hk) (by decide)
end maps
section maps
variable{P:Program}{w0:World}{U:Rn}{Sz:St}{w:World}
theorem OM (h:Rel P w0 U Sz w){t:TypeId}{m m' s s' x x':Value}{k:St->Bool} (hk:TL m s x Sz k=true) (hm:VR U m m') (hs:VR U s s') (hx:VR U x x'):
 ∃S' w',k S'=true/\Rel P w0 U S' w'/\Stp U w U w'/\(Instr.entryStore t m' s' x').run P w= .ok () w':=absurd (show false=true from hk) (by decide)
theorem At (h:Rel P w0 U Sz w){ts:Array TypeId}{t:TypeId}{m m' key key':Value}{k:St->Bool} (hk:Py P ts.toList m key Sz k=true) (hm:VR U m m') (hkey':VR U key key'):
 ∃S' w',k S'=true/\Rel P w0 U S' w'/\Stp U w U w'/\(Builtin.delete_ ts t #[m',key']).run P w= .ok (.tuple #[]) w':=absurd (show false=true from hk) (by decide)
theorem IH (h:Rel P w0 U Sz w){t:TypeId}{K:VK} (hk:qZ Sz (.map [] 0) (fun i Sz=>K (.map (some i)) Sz)=true):
 ∃U' v S' v' w',K v S'=true/\(Instr.makeMap t none).run P w= .ok v' w'/\VR U' v v'/\Rel P w0 U' S' w'/\Stp U w U' w':=by
 rw [gE]at hk;obtain⟨r1,r2⟩:=h.new (.map [] 0) (.map #[] 0) ⟨w.heap.size,0,0,0⟩ rfl (fun U' _ hU=>⟨_,#[],hU,h.base.size,by show(w.heap.push _)[w.heap.size]? =_;simp,rfl,by simp⟩) (by simp [fS.olds]);exact⟨_,_,_,_,_,hk,by simp [Instr.makeMap,newObj];rfl,.map (Rn.iV U Sz.n _),r1,r2⟩
theorem XP (h:Rel P w0 U Sz w){t:TypeId}{r r':Value}{K:VK} (hr:VR U r r')
 (hk:(match(generalizing:=false) r,Dy P t with | .int _ _,some _=>qZ Sz (.map [] 0) (fun i Sz=>K (.map (some i)) Sz) | _,_=>false)=true):
 ∃U' v S' v' w',K v S'=true/\(Instr.makeMap t (some r')).run P w= .ok v' w'/\VR U' v v'/\Rel P w0 U' S' w'/\Stp U w U' w':=by
 split at hk
 ·rename_i hm
  have hu:=RP hm;cases hr.of_flat rfl;obtain⟨U',v,S',v',w',h1,h2,h3⟩:=IH (t:=t) h hk;refine⟨U',v,S',v',w',h1,?_,h3⟩;simp [Instr.makeMap,run_underlying hu,asInt,asIntOf]at h2 ⊢;exact h2
 ·cases hk
theorem Au (h:Rel P w0 U Sz w){t:TypeId}{x x':Value}{K:VK} (hk:Pz P t x Sz K=true) (hx:VR U x x'):
 ∃U' v S' v' w',K v S'=true/\(Instr.range t x').run P w= .ok v' w'/\VR U' v v'/\Rel P w0 U' S' w'/\Stp U w U' w':=absurd (show false=true from hk) (by decide)
theorem Hu (h:Rel P w0 U Sz w){ty:TypeId}{x x':Value}{K:VK} (hk:aCE x Sz K=true) (hx:VR U x x'):
 ∃v S' v' w',K v S'=true/\(Instr.next x' false ty).run P w= .ok v' w'/\VR U v v'/\Rel P w0 U S' w'/\Stp U w U w':=absurd (show false=true from hk) (by decide)
theorem Ei (h:Rel P w0 U Sz w){x x':Value}{K:VK} (hk:Wu x Sz K=true) (hx:VR U x x'):
 ∃v v',K v Sz=true/\VR U v v'/\(Instr.entry x').run P w= .ok v' w:=absurd (show false=true from hk) (by decide)
theorem II{t as xT:TypeId}{v:Value}{d:TypeDesc}{ok:Bool} (hd:P.underlying as=some d) (hi:∀ms,d≠ .interface ms) (ht:t=as):
 (Instr.typeAssert (.iface t v) xT as ok).run P w= .ok (if ok then .tuple #[v,.bool true]else v) w:=by
 subst ht;simp only [Instr.typeAssert,Sem.run_bind,run_underlying hd,Result.andThen_ok];cases d<;>first | exact absurd rfl (hi _) | (cases ok<;>simp)
end maps
section app
variable{P:Program}{w0:World}{U:Rn}{Sz:St}{w:World}
theorem ON (h:Rel P w0 U Sz w){size n:Nat}{x x':Value}{k:List Value->Bool} (hk:DC Sz size n x k=true) (hx:VR U x x'):
 ∃cs cs',k cs=true/\gO U cs cs'/\cs'.length=n*size/\(Builtin.firstCells size n x').run P w= .ok ⟨cs'⟩ w/\(Builtin.firstCells size n x').run P w.drew= .ok ⟨cs'⟩ w.drew:=by
 unfold DC at hk;split at hk
 ·cases hx.of_flat rfl
  split at hk
  ·exact⟨_,[],hk,.nil U,by simp,rfl,rfl⟩
  ·cases hk
 ·rename_i i o sp len c
  split at hk
  ·rcases hx.iN with ⟨L,c',hL,rfl,_⟩ | ⟨⟨s1,h1⟩,rfl,rfl,a,c',rfl⟩
   ·exact⟨_,[],hk,.nil U,by simp,by simp [Builtin.firstCells,loadCells,loadCellsFrom],by simp [Builtin.firstCells,loadCells,loadCellsFrom]⟩
   ·exact⟨_,[],hk,.nil U,by simp,by simp [Builtin.firstCells,loadCells,loadCellsFrom],by simp [Builtin.firstCells,loadCells,loadCellsFrom]⟩
  ·rename_i n
   split at hk
   ·cases hk
   ·rename_i hsp
    rcases hx.iN with ⟨L,c',hL,rfl,_⟩ | ⟨⟨s1,h1⟩,rfl,rfl,a,c',rfl⟩
    ·obtain⟨vs,e',ck,ho,hle,hk⟩:=wE hk
     obtain⟨l',hl',hlen,hc⟩:=h.wF ho hL hle;exact⟨_,l',hk,hl',hlen,run_loadCells (P:=P) _ l' hlen hc,run_loadCells (P:=P) (w:=w.drew) _ l' hlen hc⟩
    ·exact absurd h1 (hsp s1)
 ·rename_i s
  cases hx.of_flat rfl;split at hk
  ·rw [fL]at hk
   split at hk
   ·rename_i hle
    rw [Ef]at hk
    have hd:((s.extract 0 n).data.map fun b=>Value.int .u8 (b.toNat:Int))=⟨(s.data.toList.take n).map fun b=>Value.int .u8 (b.toNat:Int)⟩:=by
     apply Array.toList_inj.1;simp
    refine⟨_,_,hk,.flat (by intro v hv;obtain⟨b,_,rfl⟩:=List.mem_map.1 hv;rfl),by simp at hle ⊢;omega,?_,?_⟩
    ·simp only [Builtin.firstCells,Sem.run_pure];rw [hd]
    ·simp only [Builtin.firstCells,Sem.run_pure];rw [hd]
   ·cases hk
  ·cases hk
 ·cases hk
theorem TQ{x x':Value}{k:Nat->Bool} (hk:IG x k=true) (hx:VR U x x'):∃n,k n=true/\(∀w,(Builtin.lenOf x').run P w= .ok n w)/\∀size w,(Builtin.firstCells size 0 x').run P w= .ok #[] w:=by
 unfold IG at hk;split at hk
 ·rename_i n c
  have f0:∀(a:Addr) (n c size:Nat) (w:World),(Builtin.firstCells size 0 (.slice (some a) n c)).run P w= .ok #[] w:=fun a n c size w=>by simp [Builtin.firstCells,loadCells,loadCellsFrom]
  cases hx with
  | flat hf=>
   rename_i base;cases base with
   | none=>exact⟨n,hk,fun w=>rfl,fun _ w=>rfl⟩
   | some a=>simp [cD]at hf
  | slice _=>exact⟨n,hk,fun w=>rfl,fun _ w=>f0 _ _ _ _ w⟩
  | lU _ _ _ _ _=>exact⟨n,hk,fun w=>rfl,fun _ w=>f0 _ _ _ _ w⟩
  | uM=>exact⟨_,hk,fun w=>rfl,fun _ w=>f0 _ _ _ _ w⟩
  | uN _=>exact⟨_,hk,fun w=>rfl,fun _ w=>f0 _ _ _ _ w⟩
 ·rename_i s
  cases hx.of_flat rfl;rw [cV]at hk;exact⟨_,hk,fun w=>rfl,fun _ w=>by simp [Builtin.firstCells]⟩
 ·cases hk
theorem Cj{d:Option TypeDesc} (h:Dz d=true):(∃e,d=some (.slice e))\/d=some .string:=by
 unfold Dz at h;split at h
 ·exact .inl ⟨_,rfl⟩
 ·exact .inr rfl
 ·cases h
section runs
variable{ts:Array TypeId}{ty t tx e:TypeId}{i:TypeInfo}{z:Value}{base:Option Addr}{sLen sCap n:Nat}{x:Value}{news olds:List Value}{w1:World}
theorem FM (h0:ts[0]? =some t) (h1:ts[1]? =some tx) (ht:P.underlying t=some (.slice e)) (hx:Dz (P.underlying tx)=true) (hi:P.info? e=some i)
 (hlen:∀w,(Builtin.lenOf x).run P w= .ok n w) (hroom:sLen+n<=sCap) (hc:(Builtin.firstCells i.size n x).run P w= .ok ⟨news⟩ w)
 (hst:∀a,base=some a->(storeCells (a.add (sLen*i.size)) news).run P w= .ok () w1) (hno:base=none->w1=w):
 (Builtin.append_ ts ty #[.slice base sLen sCap,x]).run P w= .ok (.slice base (sLen+n) sCap) w1:=by
 rcases Cj hx with ⟨e',hx⟩ | hx
 all_goals cases base with
  | none=>cases hno rfl;simp [Builtin.append_,h0,h1,run_underlying ht,run_underlying hx,sizeOf,typeInfo,hi,hlen,hroom,hc]
  | some a=>simp [Builtin.append_,h0,h1,run_underlying ht,run_underlying hx,sizeOf,typeInfo,hi,hlen,hroom,hc,hst a rfl]
theorem FN (h0:ts[0]? =some t) (h1:ts[1]? =some tx) (ht:P.underlying t=some (.slice e)) (hx:Dz (P.underlying tx)=true) (hi:P.info? e=some i) (hz:i.zero=some z)
 (hlen:∀w,(Builtin.lenOf x).run P w= .ok n w) (hroom:sCap<sLen+n) (hbytes:(sLen+n)*(i.bytes+1)<=1099511627776) (hold:(Builtin.firstCells i.size sLen (.slice base sLen sCap)).run P w.drew= .ok ⟨olds⟩ w.drew)
 (hc:(Builtin.firstCells i.size n x).run P w.drew= .ok ⟨news⟩ w.drew):
 (Builtin.append_ ts ty #[.slice base sLen sCap,x]).run P w= .ok (.slice (some ⟨w.heap.size,0,none⟩) (sLen+n) (grownCap w (sLen+n) sCap e))
  (w.drew.alloc (.cells ⟨(olds++news)++(List.replicate (grownCap w (sLen+n) sCap e-(sLen+n)) z.cells.toList).flatten⟩ e)):=by
 have hn:¬(sLen+n<=sCap):=by omega
 have hb:(sLen+n)*i.bytes<=1099511627776:=by rw [Nat.mul_succ]at hbytes;omega
 have hb2:sLen+n<=1099511627776:=by rw [Nat.mul_succ]at hbytes;omega
 have h63':¬(9223372036854775807<((sLen:Int)+(n:Int))):=by omega
 have h48:=growslice_fits (bytes:=i.bytes) hroom (by omega);have h48':¬(281474976710656<Builtin.nextslicecap (sLen+n) sCap*i.bytes):=by omega
 have hzz:∀m,Builtin.zeroCells z.cells m=⟨(List.replicate m z.cells.toList).flatten⟩:=by
  intro m;by_cases hne:z.cells.toList=[]
  ·have:z.cells= #[]:=Array.toList_inj.1 hne
   apply Array.toList_inj.1;simp [Builtin.zeroCells,this]
  ·exact DT z.cells.toList z.cells rfl m hne
 rcases Cj hx with ⟨e',hx⟩ | hx<;>
  simp [Builtin.append_,h0,h1,run_underlying ht,run_underlying hx,sizeOf,typeInfo,zeroValue,hi,hz,hlen,hn,h63',h48',Question.forced,hc,hold,newRow,grownCap,hzz]
end runs
end app
section app
variable{P:Program}{w0:World}{U:Rn}{Sz:St}{w:World}
theorem Rel.stale (h:Rel P w0 U Sz w){b:Nat}{vs:List Value}{e:TypeId}{olds:List Nat} (ho:Sz.obj b=some (.cells vs e (.grown olds))):Rel P w0 U (Sz.set b (.cells vs e .stale)) w:=by
 have hcase:∀j x,(Sz.set b (.cells vs e .stale)).obj j=some x->(j=b/\x= .cells vs e .stale)\/(j≠b/\Sz.obj j=some x):=fun j x hx=>by
  rw [wZ]at hx;by_cases e:j=b
  ·rw [if_pos e]at hx;injection hx with hx;exact .inl ⟨e,hx.symm⟩
  ·rw [if_neg e]at hx;exact .inr ⟨e,hx⟩
 have hsh:∀(j:Nat) (y:fS),y.qK=false->Sz.obj j=some y->Ww b j (.cells vs e (.grown olds)) y->y.reads=true:=by
  intro j y hd hy hs;rcases hs with ⟨h1,_⟩ | h1 | h1
  ·cases h1
  ·obtain⟨_,h2⟩:=h.old b vs e olds ho j h1
   rcases h2 y hy with h3 | ⟨ws,t',h3,_⟩
   ·rw [h3]at hd;cases hd
   ·rw [h3];rfl
  ·cases y with
   | cells us t k=>
    cases k with
    | grown l=>
     obtain⟨_,h2⟩:=h.old j us t l hy b h1;rcases h2 _ ho with h3 | ⟨ws,t',h3,_⟩
     ·cases h3
     ·injection h3 with _ _ h3;cases h3
    | _=>cases h1
   | _=>cases h1
 refine⟨h.XQ,fun j x hx=>?_,h.dom,fun j x hx=>?_,h.loc,fun i j x y L M hij hx hy Sn hdy hL hM hb=>?_,fun j us t l hj i hi=>?_,h.base⟩
 ·rcases hcase j x hx with ⟨rfl,rfl⟩ | ⟨_,hx⟩
  ·obtain⟨L,cs,t,fz,h1,h2,h3,h4⟩:=h.DU _ _ ho
   exact⟨L,cs,t,fz,h1,h2,h3,h4.1,h4.2.2.2⟩
  ·exact h.DU j x hx
 ·rcases hcase j x hx with ⟨rfl,_⟩ | ⟨_,hx⟩
  ·exact h.lt _ _ ho
  ·exact h.lt j x hx
 ·rcases hcase i x hx with ⟨e1,e2⟩ | ⟨e1,hx1⟩<;>rcases hcase j y hy with ⟨f1,f2⟩ | ⟨f1,hy1⟩
  ·exact absurd (e1.trans f1.symm) hij
  ·subst e1 e2
   exact .inl ⟨rfl,hsh j y hdy hy1 (h.sep i j _ y L M hij ho hy1 rfl hdy hL hM hb)⟩
  ·subst f1 f2
   have:=h.sep j i _ x M L (Ne.symm hij) ho hx1 rfl Sn hM hL hb.symm;exact .inl ⟨hsh i x Sn hx1 this,rfl⟩
  ·exact h.sep i j x y L M hij hx1 hy1 Sn hdy hL hM hb
 ·rcases hcase j _ hj with ⟨_,e2⟩ | ⟨e1,hj⟩
  ·injection e2 with _ _ e2;cases e2
  ·obtain⟨h1,h2⟩:=h.old j us t l hj i hi
   refine⟨h1,fun x hx=>?_⟩;rcases hcase i x hx with ⟨rfl,rfl⟩ | ⟨_,hx⟩
   ·rcases h2 _ ho with h3 | ⟨ws,t',h3,_⟩
    ·cases h3
    ·injection h3 with _ _ h3;cases h3
   ·exact h2 x hx
theorem Rel.aEv (h:Rel P w0 U Sz w){b:Nat}{L:Loc} (hL:U b=some L){vs:List Value}{e:TypeId} (ho:Sz.obj b=some (.cells vs e .stale)){olds:List Nat}
 (holds:∀i∈olds,i<Sz.n/\∀x,Sz.obj i=some x->Hv U b vs i x)
 (Ej:∀j x M,Sz.obj j=some x->x.qK=false->U j=some M->M.b=L.b->j=b\/j∈olds)
 {cs cs':Array Value} {t:TypeId} {fz:Nat×Nat} (hb:w.heap[L.b]? =some (.cells cs t fz)) (hsz:cs'.size=cs.size) (hsame:∀j,j<L.s+vs.length->cs'[j]? =cs[j]?)
 {e2:TypeId} {s2:Nat} {new:List Value} (hlen:L.s+vs.length<=s2+new.length) (hnew:∀(j:Nat) (v:Value),new[j]? =some v->∃v',cs'[s2+j]? =some v'/\VR U v v')
 (hfz:RQ cs.size fz) (hLe:L.e=cs.size) (hm:cN P e2=some L.m) (he2:e=e2) (hbase:w0.heap.size<=L.b):
 Rel P w0 (U.put Sz.n ⟨L.b,s2,L.e,L.m⟩) (Sz.new (.cells new e2 (.grown (b::olds)))) (w.putObj L.b (.cells cs' t fz))/\Stp U w (U.put Sz.n ⟨L.b,s2,L.e,L.m⟩) (w.putObj L.b (.cells cs' t fz)):=by
 have hnone:=h.dom Sz.n (Nat.le_refl _);have he:Ext U (U.put Sz.n ⟨L.b,s2,L.e,L.m⟩):=Rn.CC hnone;have hget:=NC (w:=w) (x:= .cells cs' t fz) hb
 have hput:∀j M,U.put Sz.n ⟨L.b,s2,L.e,L.m⟩ j=some M->(j=Sz.n/\M=⟨L.b,s2,L.e,L.m⟩)\/(j≠Sz.n/\U j=some M):=fun j M hj=>by
  unfold Rn.put at hj;by_cases e:j=Sz.n
  ·rw [if_pos e]at hj;injection hj with hj;exact .inl ⟨e,hj.symm⟩
  ·rw [if_neg e]at hj;exact .inr ⟨e,hj⟩
 have lK:∀j x,(Sz.new (.cells new e2 (.grown (b::olds)))).obj j=some x->(j=Sz.n/\x= .cells new e2 (.grown (b::olds)))\/(j≠Sz.n/\Sz.obj j=some x):=fun j x hx=>by
  rw [FO]at hx;by_cases e:j=Sz.n
  ·rw [if_pos e]at hx;injection hx with hx;exact .inl ⟨e,hx.symm⟩
  ·rw [if_neg e]at hx;exact .inr ⟨e,hx⟩
 have hblt:=h.lt b _ ho
 have hte:t=e2:=by
  obtain⟨L',cs0,t0,fz0,k1,k2,_,k4⟩:=h.DU b _ ho;rw [hL]at k1;injection k1 with k1;subst k1;rw [hb]at k2;injection k2 with k2;injection k2 with _ k2 _;rw [k2,<-he2];exact k4.2.2
 refine⟨⟨fun g hg=>let⟨M,h1,h2⟩:=h.XQ g hg;⟨M,he _ _ h1,h2⟩,fun j x hx=>?_,fun j hj=>?_,fun j x hx=>?_,fun j M hj=>?_,fun i j x y M N hij hx hy Sn hdy hM hN OK=>?_,fun j us t' l hj i hi=>?_,?_⟩,he,⟨by rw [putObj_size];omega,fun c _ hc=>uP (Ne.symm (hc b L hL))⟩,fun j M hj=>?_⟩
 ·rcases lK j x hx with ⟨rfl,rfl⟩ | ⟨e1,hx1⟩
  ·refine⟨_,cs',t,fz,Rn.iV _ _ _,hget,fun j v hj=>?_,hbase,by rw [hsz];exact hfz,by rw [hsz];exact hLe,hm,hte⟩
   obtain⟨v',h1,h2⟩:=hnew j v hj;exact⟨v',h1,h2.mono he⟩
  ·cases hd:x.qK with
   | true=>cases x<;>first | trivial | cases hd
   | false=>
    obtain⟨M,hM⟩:=(h.DU j x hx1).loc hd;by_cases Qd:M.b=L.b
    ·
      have hext:∃ws e',x= .cells ws e' .stale/\M.s+ws.length<=L.s+vs.length:=by
       rcases Ej j x M hx1 hd hM Qd with e2 | hin
       ·subst e2
        rw [ho]at hx1;injection hx1 with hx1;rw [hL]at hM;injection hM with hM;subst hM;exact⟨vs,e,hx1.symm,Nat.le_refl _⟩
       ·rcases(holds j hin).2 x hx1 with h3 | ⟨ws,e',h3,h4⟩
        ·rw [h3]at hd;cases hd
        ·exact⟨ws,e',h3,h4 L M hL hM Qd⟩
      obtain⟨ws,e',rfl,hle⟩:=hext;obtain⟨M',cs0,t0,fz0,h1,h2,h3,h4⟩:=h.DU j _ hx1;rw [hM]at h1;injection h1 with h1;subst h1;rw [Qd,hb]at h2;injection h2 with h2;injection h2 with h2 h2a h2b;subst h2 h2a h2b;refine⟨M,cs',t,fz,he _ _ hM,by rw [Qd];exact hget,fun q v hq=>?_,h4⟩;obtain⟨v',g1,g2⟩:=h3 q v hq;have hql:q<ws.length:=(List.getElem?_eq_some_iff.1 hq).1;exact⟨v',(hsame _ (by omega)).trans g1,g2.mono he⟩
    ·exact(h.DU j x hx1).frame he fun M' hM'=>by rw [hM]at hM';injection hM' with hM';subst hM';exact uP Qd
 ·have hj':Sz.n+1<=j:=hj
  unfold Rn.put;rw [if_neg (by omega)];exact h.dom j (by omega)
 ·rcases lK j x hx with ⟨e1,_⟩ | ⟨_,hx1⟩
  ·subst e1;exact Nat.lt_succ_self _
  ·exact Nat.lt_succ_of_lt (h.lt j x hx1)
 ·rw [putObj_size]
  rcases hput j M hj with ⟨_,rfl⟩ | ⟨_,hM⟩
  ·exact h.loc b L hL
  ·exact h.loc j M hM
 ·rcases lK i x hx with ⟨e1,e2⟩ | ⟨e1,hx1⟩<;>rcases lK j y hy with ⟨f1,f2⟩ | ⟨f1,hy1⟩
  ·exact absurd (e1.trans f1.symm) hij
  ·rcases hput i M hM with ⟨_,rfl⟩ | ⟨e3,_⟩
   ·rcases hput j N hN with ⟨f3,_⟩ | ⟨_,hN1⟩
    ·exact absurd f3 f1
    ·rw [e2]
     rcases Ej j y N hy1 hdy hN1 OK.symm with h5 | h5
     ·exact .inr (.inl (by rw [h5];exact .head _))
     ·exact .inr (.inl (.tail _ h5))
   ·exact absurd e1 e3
  ·rcases hput j N hN with ⟨_,rfl⟩ | ⟨f3,_⟩
   ·rcases hput i M hM with ⟨e3,_⟩ | ⟨_,hM1⟩
    ·exact absurd e3 e1
    ·rw [f2]
     rcases Ej i x M hx1 Sn hM1 OK with h5 | h5
     ·exact .inr (.inr (by rw [h5];exact .head _))
     ·exact .inr (.inr (.tail _ h5))
   ·exact absurd f1 f3
  ·rcases hput i M hM with ⟨e3,_⟩ | ⟨_,hM1⟩
   ·exact absurd e3 e1
   ·rcases hput j N hN with ⟨f3,_⟩ | ⟨_,hN1⟩
    ·exact absurd f3 f1
    ·exact h.sep i j x y M N hij hx1 hy1 Sn hdy hM1 hN1 OK
 ·rcases lK j _ hj with ⟨e1,e2⟩ | ⟨e1,hj1⟩
  ·injection e2 with e2 e3 e4
   injection e4 with e4;subst e1 e2 e4
   have hib:i<Sz.n/\∀x,Sz.obj i=some x->Hv U b vs i x:=by
    rcases List.mem_cons.1 hi with h5 | h5
    ·subst h5
     refine⟨hblt,fun x hx=> .inr ⟨vs,e,?_,?_⟩⟩
     ·rw [ho]at hx;injection hx with hx;exact hx.symm
     ·intro L1 M1 g1 g2 _;rw [g1]at g2;injection g2 with g2;subst g2;exact Nat.le_refl _
    ·exact holds i h5
   refine⟨Nat.lt_succ_of_lt hib.1,fun x hx=>?_⟩;rcases lK i x hx with ⟨e5,_⟩ | ⟨e5,hx1⟩
   ·exact absurd e5 (by have:=hib.1;omega)
   ·rcases hib.2 x hx1 with h6 | ⟨ws,e',h6,h7⟩
    ·exact .inl h6
    ·refine .inr ⟨ws,e',h6,fun L1 M1 g1 g2 gb=>?_⟩
     rcases hput _ _ g1 with ⟨_,rfl⟩ | ⟨g3,_⟩
     ·rcases hput _ _ g2 with ⟨g4,_⟩ | ⟨_,g4⟩
      ·exact absurd g4 e5
      ·have:=h7 L M1 hL g4 gb
       simp only;omega
     ·exact absurd rfl g3
  ·obtain⟨h1,h2⟩:=h.old j us t' l hj1 i hi
   refine⟨Nat.lt_succ_of_lt h1,fun x hx=>?_⟩;rcases lK i x hx with ⟨e3,_⟩ | ⟨e3,hx1⟩
   ·omega
   ·rcases h2 x hx1 with h3 | ⟨ws,e',h3,h4⟩
    ·exact .inl h3
    ·refine .inr ⟨ws,e',h3,fun L1 M1 g1 g2 gb=>?_⟩
     rcases hput _ _ g1 with ⟨g3,_⟩ | ⟨_,g3⟩
     ·exact absurd g3 e1
     ·rcases hput _ _ g2 with ⟨g5,_⟩ | ⟨_,g5⟩
      ·exact absurd g5 e3
      ·exact h4 L1 M1 g3 g5 gb
 ·exact⟨h.base.os,h.base.tape,h.base.output,by rw [putObj_size];exact h.base.size,fun k hk=>(uP (by omega)).trans (h.base.block k hk)⟩
 ·rcases hput j M hj with ⟨_,rfl⟩ | ⟨_,hM⟩
  ·exact .inr (.inr ⟨b,L,hL,rfl⟩)
  ·exact .inl hM
end app
section app
variable{P:Program}{w0:World}{U:Rn}{Sz:St}{w:World}
theorem TR{t e:TypeId} (h:isSlice P t=some e):P.underlying t=some (.slice e):=eR h
theorem Wx (n:Nat) (z:List Value){m:Nat} (h:z.length=m):(List.replicate n z).flatten.length=n*m:=by simp [h]
theorem Rel.fresh (h:Rel P w0 U Sz w){cs cs' zl:List Value} (hcs:gO U cs cs'){need size g:Nat}{elem:TypeId} (hl:cs'.length=need*size) (hm:cN P elem=some size) (hz:zl.length=size) (hpos:0<size) (hg:need<=g){olds:List Nat}
 (hold:∀i∈olds,i<Sz.n/\∀x,Sz.obj i=some x->x= .dead\/∃ws e,x= .cells ws e .stale):
 ∃U',VR U' (.slice (some ⟨Sz.n,0,some 0⟩) need need) (.slice (some ⟨w.heap.size,0,none⟩) need g)/\Rel P w0 U' (Sz.new (.cells cs elem (.grown olds))) (w.drew.alloc (.cells ⟨cs'++(List.replicate (g-need) zl).flatten⟩ elem))/\
  Stp U w U' (w.drew.alloc (.cells ⟨cs'++(List.replicate (g-need) zl).flatten⟩ elem)):=by
 obtain⟨r1,r2⟩:=h.drew.Ht (more:=(List.replicate (g-need) zl).flatten) hcs elem hm (0,0) (by intro x _;omega) olds hold;have hL:=Rn.iV U Sz.n ⟨w.drew.heap.size,0,(cs'++(List.replicate (g-need) zl).flatten).length,size⟩;refine⟨_,?_,r1,(Stp.drew U w).trans r2⟩
 have hlen:(cs'++(List.replicate (g-need) zl).flatten).length=g*size:=by
  rw [List.length_append,hl,Wx _ _ hz,<-Nat.add_mul]
  congr 1
  omega
 exact VR.lU (o:=0) (n:=need) (c:=need) (c':=g) hL hg (Nat.le_refl _) (by simp only [hlen];omega) hpos
theorem Ek (h:Rel P w0 U Sz w){ts:Array TypeId}{ty t tx e:TypeId}{i:TypeInfo}{size:Nat} (h0:ts[0]? =some t) (h1:ts[1]? =some tx) (ht:P.underlying t=some (.slice e)) (Av:Dz (P.underlying tx)=true) (hi:P.info? e=some i) (hsize:i.size=size)
 {base:Option Addr} {sLen sCap n:Nat} {s' _x x':Value} {new new':List Value} {K:VK} (hs:VR U (.slice base sLen sCap) s') (hlen:∀w,(Builtin.lenOf x').run P w= .ok n w) (hn:gO U new new')
 (hc:(Builtin.firstCells size n x').run P w= .ok ⟨new'⟩ w) (hfit:sLen+n<=sCap) (hk:Ea size new base sLen sCap (sLen+n) Sz K=true):
 ∃U' v S' v' w',K v S'=true/\(Builtin.append_ ts ty #[s',x']).run P w= .ok v' w'/\VR U' v v'/\Rel P w0 U' S' w'/\Stp U w U' w':=by
 unfold Ea at hk;split at hk
 ·rename_i b o sp
  split at hk
  ·rename_i hsp hone
   rw [dE]at hk;rw [jW]at hone;have hone:=OO hn (List.all_eq_true.1 hone);rcases hs.iN with ⟨L,c',hL,rfl,hcap⟩ | ⟨⟨_,hsp1⟩,_⟩
   ·obtain⟨S',w',hk,r1,r2,hrun⟩:=kP h hk hL hn hone
    refine⟨U,_,S',_,w',hk,FM h0 h1 ht Av hi hlen (by rcases hcap with ⟨_,e⟩ | ⟨_,e,_⟩<;>omega) (by rw [hsize];exact hc) (fun a ha=>?_) (fun e=>by cases e),?_,r1,r2⟩
    ·injection ha with ha
     rw [<-ha,iC,hsize,Nat.add_assoc];exact hrun
    ·rcases hcap with ⟨rfl,rfl⟩ | ⟨rfl,e1,e2,e3,e4⟩
     ·exact .slice hL
     ·exact .lU hL e1 hfit e3 e4
   ·rw [hsp1]at hsp;cases hsp
  ·cases hk
 ·cases hk
theorem Aw (h:Rel P w0 U Sz w){ts:Array TypeId}{ty t tx e:TypeId}{i:TypeInfo}{z:Value}{size:Nat} (h0:ts[0]? =some t) (h1:ts[1]? =some tx) (ht:P.underlying t=some (.slice e)) (Av:Dz (P.underlying tx)=true) (hi:P.info? e=some i) (hsize:i.size=size) (hz:i.zero=some z) (hzs:z.cells.size=size) (hpos:0<size)
 {base:Option Addr} {sLen sCap n:Nat} {s' _x x':Value} {new new':List Value} {K:VK} (hs:VR U (.slice base sLen sCap) s') (hlen:∀w,(Builtin.lenOf x').run P w= .ok n w) (hn:gO U new new') (hnl:new'.length=n*size)
 (hc:(Builtin.firstCells size n x').run P w= .ok ⟨new'⟩ w) (hcD:(Builtin.firstCells size n x').run P w.drew= .ok ⟨new'⟩ w.drew) (hfit:¬sLen+n<=sCap) (hbytes:(sLen+n)*(i.bytes+1)<=1099511627776)
 (hk:WK P e size new base sLen (sLen+n) Sz K=true):
 ∃U' v S' v' w',K v S'=true/\(Builtin.append_ ts ty #[s',x']).run P w= .ok v' w'/\VR U' v v'/\Rel P w0 U' S' w'/\Stp U w U' w':=by
 have hm:cN P e=some size:=by unfold cN;rw [hi];simp [hsize]
 have hzl:z.cells.toList.length=size:=by simpa using hzs
 subst hsize;unfold WK at hk;split at hk
 ·
   cases hs.of_flat rfl;split at hk
   ·simp only [MC,mV,gE,List.nil_append]at hk
    rw [Nat.zero_add]at hk hfit hbytes;have hrun:=FN (w:=w) (ty:=ty) (base:=none) (sLen:=0) (sCap:=sCap) (olds:=[]) h0 h1 ht Av hi hz hlen (by omega) (by rw [Nat.zero_add];exact hbytes) rfl hcD;rw [Nat.zero_add,List.nil_append]at hrun;obtain⟨U',r0,r1,r2⟩:=h.fresh hn hnl hm hzl hpos (grownCap_ge w n sCap e) (olds:=[]) (by simp);exact⟨U',_,_,_,_,hk,hrun,r0,r1,r2⟩
   ·cases hk
 ·
   rename_i b o;rcases hs.iN with ⟨L,c',hL,rfl,⟨_,rfl⟩ | ⟨hsp,_⟩⟩ | ⟨⟨_,hsp⟩,_⟩
   ·obtain⟨vs,e',ck,ho,hle,hk⟩:=wE hk
    obtain⟨old',hl',hol,hcell⟩:=h.wF ho hL hle;simp only [MC,mV,gE]at hk;have hrun:=FN (w:=w) (ty:=ty) (base:=some ⟨L.b,L.s+o,none⟩) (sLen:=sLen) (sCap:=c') (olds:=old') h0 h1 ht Av hi hz hlen (by omega) hbytes (run_loadCells (w:=w.drew) _ old' hol hcell) hcD;obtain⟨U',r0,r1,r2⟩:=h.fresh (hl'.append hn) (by rw [List.length_append,hol,hnl,<-Nat.add_mul]) hm hzl hpos (grownCap_ge w (sLen+n) c' e) (olds:=[]) (by simp);exact⟨U',_,_,_,_,hk,hrun,r0,r1,r2⟩
   ·cases hsp
   ·cases hsp
 ·
   rename_i b o;rcases hs.iN with ⟨L,c',hL,rfl,⟨hsp,_⟩ | ⟨_,hcc,hnc,hend,hmp⟩⟩ | ⟨⟨_,hsp⟩,_⟩
   ·cases hsp
   ·obtain⟨vs,e',ck,ho,hk⟩:=kX hk
    rw [cV]at hk;split at hk
    ·rename_i olds q hbeq hq
     have hvl:=Nat.eq_of_beq_eq_true hbeq;split at hk
     ·rename_i hqs hone hel
      have hqs:=Nat.eq_of_beq_eq_true hqs;subst hqs;have hel:=Nat.eq_of_beq_eq_true hel;rw [jW]at hone;have hone:=OO hn (List.all_eq_true.1 hone);obtain⟨vs2,e2,ck2,ho2,hle,hk⟩:=wE hk;rw [ho]at ho2;injection ho2 with ho2;injection ho2 with q1 q2 q3;subst q1 q2;obtain⟨old',hl',hol,hcell⟩:=h.wF ho hL hle;simp only [MC,mV,gE,jX]at hk;obtain⟨cs,t',fz,hb,hcv,hbase,aCF,hLe,hLm,_⟩:=h.cells ho hL;have hLm:L.m=i.size:=by rw [hq]at hLm;injection hLm with hLm;exact hLm.symm
      have hst:=h.stale ho;have hob:(Sz.set b (.cells vs e' .stale)).obj b=some (.cells vs e' .stale):=by rw [wZ,if_pos rfl]
      have hblt:=h.lt b _ ho
      have holds:∀q∈olds,q<Sz.n/\∀y,(Sz.set b (.cells vs e' .stale)).obj q=some y->Hv U b vs q y:=by
       intro q hq;obtain⟨g1,g2⟩:=h.old b vs e' olds ho q hq;refine⟨g1,fun y hy=>?_⟩;rw [wZ]at hy;split at hy
       ·rename_i eq
        rcases g2 _ (eq▸ho)with g3 | ⟨ws,u,g3,_⟩
        ·cases g3
        ·injection g3 with _ _ g3;cases g3
       ·exact g2 y hy
      by_cases hroom:sLen+n<=c'
      ·
        have aEw:L.s+o+sLen*i.size+new'.length<=cs.size:=by
         rw [hnl,Nat.add_assoc,<-Nat.add_mul,<-hLe];rw [hLm]at hend;have:=Nat.mul_le_mul_right i.size hroom;omega
        have hsc:=AO (P:=P) new' w L.b (L.s+o+sLen*i.size) 0 cs t' fz hb (by simpa using aEw) (fun x hx1 hx2=>aCF x (by simp at hx1 hx2;omega)) hone;simp only [Nat.add_zero]at hsc;have aFH:cs.toList.length=cs.size:=rfl
        have hget:∀j:Nat,(⟨splice (L.s+o+sLen*i.size) new' cs.toList⟩:Array Value)[j]? =if L.s+o+sLen*i.size<=j/\j<L.s+o+sLen*i.size+new'.length then new'[j-(L.s+o+sLen*i.size)]? else cs[j]? :=by
         intro j;have:=oN (L.s+o+sLen*i.size) new' cs.toList (by omega) j;simpa using this
        obtain⟨r1,r2⟩:=hst.aEv (Sz:=Sz.set b (.cells vs e' .stale)) hL hob (olds:=olds) holds
         (fun j y M hy hd hM Qd=>by
          rw [wZ]at hy;split at hy
          ·rename_i eq;exact .inl eq
          ·rename_i eq
           rcases h.sep b j _ y L M (Ne.symm eq) ho hy rfl hd hL hM Qd.symm with ⟨g1,_⟩ | g1 | g1
           ·cases g1
           ·exact .inr g1
           ·cases y with
            | cells us u kk=>
             cases kk with
             | grown l=>
              obtain⟨_,g2⟩:=h.old j us u l hy b g1;rcases g2 _ ho with g3 | ⟨ws,u',g3,_⟩
              ·cases g3
              ·injection g3 with _ _ g3;cases g3
             | _=>cases g1
            | _=>cases g1)
         (cs':=⟨splice (L.s+o+sLen*i.size) new' cs.toList⟩) hb (by show(splice _ _ _).length=_;rw [mK _ _ _ (by omega)];exact aFH)
         (fun j hj=>by rw [hget,if_neg (by omega)]) (e2:=e) (s2:=L.s+o) (new:=(vs.drop o).take (sLen*i.size)++new)
         (by
          have:=hl'.1;rw [List.length_append];omega)
         (fun j v hj=>by
          have aEx:((vs.drop o).take (sLen*i.size)).length=sLen*i.size:=by rw [hl'.1,hol]
          rw [List.getElem?_append]at hj;rw [hget];split at hj
          ·rename_i hlt
           rw [aEx]at hlt;rw [if_neg (by omega)];rw [List.getElem?_take,if_pos hlt,List.getElem?_drop]at hj;rw [Nat.add_assoc];exact hcv _ _ hj
          ·rename_i hlt
           rw [aEx]at hlt hj;have hjl:=(List.getElem?_eq_some_iff.1 hj).1;have:=hn.1;rw [if_pos (by omega),show L.s+o+j-(L.s+o+sLen*i.size)=j-sLen*i.size by omega];exact hn.get hj)
         aCF hLe (by rw [hLm];exact hm) hel hbase
        refine⟨_,_,_,_,_,hk,FM (w1:=w.putObj L.b (.cells ⟨splice (L.s+o+sLen*i.size) new' cs.toList⟩ t' fz)) h0 h1 ht Av hi hlen hroom hc (fun a ha=>?_) (fun e=>by cases e),?_,r1,?_⟩
        ·injection ha with ha
         rw [<-ha,iC];exact hsc
        ·have hL2:=Rn.iV U Sz.n ⟨L.b,L.s+o,L.e,L.m⟩
         exact VR.lU (o:=0) (n:=sLen+n) (c:=sLen+n) (c':=c') hL2 hroom (Nat.le_refl _) hend hmp
        ·exact r2
      ·
        have hrun:=FN (w:=w) (ty:=ty) (base:=some ⟨L.b,L.s+o,none⟩) (sLen:=sLen) (sCap:=c') (olds:=old') h0 h1 ht Av hi hz hlen (by omega) hbytes (run_loadCells (w:=w.drew) _ old' hol hcell) hcD
        obtain⟨U',r0,r1,r2⟩:=hst.fresh (Sz:=Sz.set b (.cells vs e' .stale)) (hl'.append hn) (by rw [List.length_append,hol,hnl,<-Nat.add_mul]) hm hzl hpos (grownCap_ge w (sLen+n) c' e) (olds:=b::olds)
         (fun q hq=>by
          rcases List.mem_cons.1 hq with rfl | hq
          ·refine⟨hblt,fun y hy=>?_⟩
           rw [hob]at hy;injection hy with hy;exact .inr ⟨vs,e',hy.symm⟩
          ·obtain⟨g1,g2⟩:=holds q hq
           refine⟨g1,fun y hy=>?_⟩;rcases g2 y hy with g3 | ⟨ws,u,g3,_⟩
           ·exact .inl g3
           ·exact .inr ⟨ws,u,g3⟩)
        exact⟨U',_,_,_,_,hk,hrun,r0,r1,r2⟩
     ·cases hk
    ·cases hk
   ·cases hsp
 ·cases hk
theorem Ax (h:Rel P w0 U Sz w){ts:Array TypeId}{ty:TypeId}{s s' x x':Value}{K:VK} (hk:KX P ts.toList s x Sz K=true) (hs:VR U s s') (hx:VR U x x'):
 ∃U' v S' v' w',K v S'=true/\(Builtin.append_ ts ty #[s',x']).run P w= .ok v' w'/\VR U' v v'/\Rel P w0 U' S' w'/\Stp U w U' w':=by
 unfold KX at hk;split at hk
 ·rename_i sT xT rest hts
  have h0:ts[0]? =some sT:=by have:=congrArg (·[0]?) hts;simpa using this
  have h1:ts[1]? =some xT:=by have:=congrArg (·[1]?) hts;simpa using this
  split at hk
  ·rename_i elem he Av
   have ht:=eR he;split at hk
   ·rename_i info hi
    split at hk
    ·rename_i size z base sLen sCap hsize hz
     split at hk
     ·rename_i hzs
      have hzs:=Nat.eq_of_beq_eq_true hzs;obtain⟨n,hk,hlen,hf0⟩:=TQ (P:=P) hk hx;split at hk
      ·
        split at hk
        ·rename_i hle
         have hle:=Nat.le_of_ble_eq_true hle
         have main:∀base' c',sLen<=c'->s'= .slice base' sLen c'->∃U' v S' v' w',K v S'=true/\(Builtin.append_ ts ty #[s',x']).run P w= .ok v' w'/\VR U' v v'/\Rel P w0 U' S' w'/\Stp U w U' w':=by
          intro base' c' hc' e;refine⟨U,_,Sz,_,w,hk,?_,hs,h,.refl U w⟩;rw [e];exact FM (w1:=w) h0 h1 ht Av hi hlen (by omega) (hf0 _ w) (fun a _=>by rfl) (fun _=>rfl)
         cases hs with
         | flat _=>exact main _ _ hle rfl
         | slice _=>exact main _ _ hle rfl
         | lU _ _ _ _ _=>exact main _ _ (by omega) rfl
         | uM=>exact main _ _ (by omega) rfl
         | uN _=>exact main _ _ (by omega) rfl
        ·cases hk
      ·obtain⟨new,new',hk,hn,hnl,hc,hcD⟩:=ON h hk hx
       rw [dE]at hk;split at hk
       ·rename_i hb
        have hb:=Nat.le_of_ble_eq_true hb;split at hk
        ·rename_i hfit
         exact Ek (_x:=x) h h0 h1 ht Av hi hsize hs hlen hn hc (Nat.le_of_ble_eq_true hfit) hk
        ·rename_i hfit
         exact Aw (_x:=x) h h0 h1 ht Av hi hsize hz hzs (Nat.succ_pos _) hs hlen hn hnl hc hcD (fun e=>by rw [Nat.ble_eq_true_of_le e]at hfit;cases hfit) hb hk
       ·cases hk
     ·cases hk
    ·cases hk
   ·cases hk
  ·cases hk
 ·cases hk
theorem Hw (h:Rel P w0 U Sz w){ts:Array TypeId}{ty:TypeId}{d d' x x':Value}{K:VK} (hk:Qa P ts.toList d x Sz K=true) (hd:VR U d d') (hx:VR U x x'):
 ∃v S' v' w',K v S'=true/\(Builtin.copy_ ts ty #[d',x']).run P w= .ok v' w'/\VR U v v'/\Rel P w0 U S' w'/\Stp U w U w':=by
 unfold Qa at hk;split at hk
 ·rename_i dT rest hts
  have h0:ts[0]? =some dT:=by have:=congrArg (·[0]?) hts;simpa using this
  split at hk
  ·rename_i elem he
   have ht:=eR he;split at hk
   ·rename_i size base dLen dCap hsize
    obtain⟨m,hk,hlen,hf0⟩:=TQ (P:=P) hk hx;rw [dE]at hk;split at hk
    ·rename_i hmin
     refine⟨_,Sz,.int .i64 0,w,hk,?_,.flat rfl,h,.refl U w⟩
     have main:∀base' c',(Builtin.copy_ ts ty #[.slice base' dLen c',x']).run P w= .ok (.int .i64 0) w:=by
      intro base' c';cases base' with
      | none=>simp only [Builtin.copy_,List.getElem?_toArray,List.getElem?_cons_zero,List.getElem?_cons_succ,h0,Sem.run_bind,run_underlying ht,Result.andThen_ok,hlen,fU hsize,hmin,hf0,Sem.run_pure,goInt];rfl
      | some a=>simp only [Builtin.copy_,List.getElem?_toArray,List.getElem?_cons_zero,List.getElem?_cons_succ,h0,Sem.run_bind,run_underlying ht,Result.andThen_ok,hlen,fU hsize,hmin,hf0,Sem.run_pure,goInt];rfl
     cases hd with
     | flat _=>exact main _ _
     | slice _=>exact main _ _
     | lU _ _ _ _ _=>exact main _ _
     | uM=>exact main _ _
     | uN _=>exact main _ _
    ·rename_i n' hmin
     obtain⟨new,new',hk,hn,hnl,hc,hcD⟩:=ON h hk hx;split at hk
     ·rename_i i o sp
      split at hk
      ·rename_i hsp hone
       rw [jW]at hone;have hone:=OO hn (List.all_eq_true.1 hone);rcases hd.iN with ⟨L,c',hL,rfl,_⟩ | ⟨⟨_,hsp1⟩,_⟩
       ·obtain⟨S',w',hk,r1,r2,hrun⟩:=kP h hk hL hn hone
        refine⟨_,S',.int .i64 ((n'+1:Nat):Int),w',hk,?_,.flat rfl,r1,r2⟩;simp only [Builtin.copy_,List.getElem?_toArray,List.getElem?_cons_zero,List.getElem?_cons_succ,h0,Sem.run_bind,run_underlying ht,Result.andThen_ok,hlen,fU hsize,hmin,hc,hrun,Sem.run_pure,goInt]
       ·rw [hsp1]at hsp;cases hsp
      ·cases hk
     ·cases hk
   ·cases hk
  ·cases hk
 ·cases hk
end app
section ops
variable{P:Program}{w0:World}{U:Rn}{Sz:St}{w:World}
def Out (P:Program) (w0:World) (U:Rn) (w:World) (K:VK) (s:Sem Next):Prop:=
 ∃r U' v S' v' w',K v S'=true/\s.run P w= .ok r w'/\(r= .value v'\/(r= .skip/\v'=undef))/\VR U' v v'/\Rel P w0 U' S' w'/\Stp U w U' w'
theorem Out.here (h:Rel P w0 U Sz w){K:VK}{s:Sem Value}{v v':Value} (hk:K v Sz=true) (hv:VR U v v') (hr:s.run P w= .ok v' w):Out P w0 U w K (do pure (.value (<-s))):=
 ⟨_,U,v,Sz,v',w,hk,by rw [Sem.run_bind,hr];rfl,.inl rfl,hv,h,.refl U w⟩
theorem Out.new{K:VK}{s:Sem Value} (h:∃U' v S' v' w',K v S'=true/\s.run P w= .ok v' w'/\VR U' v v'/\Rel P w0 U' S' w'/\Stp U w U' w'):Out P w0 U w K (do pure (.value (<-s))):=by
 obtain⟨U',v,S',v',w',hk,hr,hv,h1,h2⟩:=h;exact⟨_,U',v,S',v',w',hk,by rw [Sem.run_bind,hr];rfl,.inl rfl,hv,h1,h2⟩
theorem Out.unit{K:VK}{s:Sem Unit} (h:∃S' w',K undef S'=true/\Rel P w0 U S' w'/\Stp U w U w'/\s.run P w= .ok () w'):Out P w0 U w K (do s;pure .skip):=by
 obtain⟨S',w',hk,h1,h2,hr⟩:=h;exact⟨_,U,undef,S',undef,w',hk,by rw [Sem.run_bind,hr];rfl,.inr ⟨rfl,rfl⟩,.tuple rfl (by simp),h1,h2⟩
theorem VR.nat{k:IntKind}{n:Nat}:VR U (.int k (.ofNat n)) (.int k (n:Int)):= .flat rfl
theorem VR.undef:VR U undef undef:= .tuple rfl (by simp)
theorem Ml{ts:Array TypeId}{ty t e:TypeId}{zero:List Value}{n c:Nat}{a:Addr}{w':World} (h0:ts[0]? =some t) (ht:P.underlying t=some (.slice e)) (hz:BX P e=some zero) (hn:n≠0) (hne:zero≠[])
 (hs:(storeCells a (List.replicate n zero).flatten).run P w= .ok () w'):(Builtin.clear_ ts ty #[.slice (some a) n c]).run P w= .ok (.tuple #[]) w':=by
 obtain⟨zv,hz1,hz2⟩:=wD hz w
 have hzz:Builtin.zeroCells zv.cells n=⟨(List.replicate n zero).flatten⟩:=by
  have:=DT zero zv.cells hz2 n hne;have hl:zv.cells.size=zero.length:=by rw [<-hz2];rfl
  unfold Builtin.zeroCells;rw [show n*zv.cells.size=n*zero.length by rw [hl]];exact this
 cases n with
 | zero=>exact absurd rfl hn
 | succ n=>simp [Builtin.clear_,h0,run_underlying ht,hz1,hzz,hs]
theorem Sq{ts:Array TypeId}{ty:TypeId}{j:IntKind}{K:Value->Bool}:∀{l l':List Value} {x:Int},TM false l j x K=true->gO U l l'->∃y,K (.int j y)=true/\∀w,(Builtin.min_ ts ty ⟨.int j x::l'⟩).run P w= .ok (.int j y) w:=by
 intro l;induction l with
 | nil=>intro l' x hk hl;cases hl.jY;exact⟨x,hk,fun w=>by simp [Builtin.min_]⟩
 | cons v l ih=>
  intro l' x hk hl;obtain⟨v',t',rfl,hv,ht⟩:=hl.dI;cases v with
  | int k y=>
   cases hv.of_flat rfl;have hk:cR (Mg y x) (TM false l j y K) (TM false l j x K)=true:=hk;rw [ND]at hk;by_cases hlt:y<x
   ·rw [decide_eq_true hlt]at hk
    obtain⟨z,hz,hr⟩:=ih hk ht;refine⟨z,hz,fun w=>?_⟩;have:=hr w;simp only [Builtin.min_,List.foldlM_cons,Builtin.min2,if_pos hlt,Sem.run_bind,Sem.run_pure,Result.andThen_ok]at this ⊢;exact this
   ·rw [decide_eq_false hlt]at hk
    obtain⟨z,hz,hr⟩:=ih hk ht;refine⟨z,hz,fun w=>?_⟩;have:=hr w;simp only [Builtin.min_,List.foldlM_cons,Builtin.min2,if_neg hlt,Sem.run_bind,Sem.run_pure,Result.andThen_ok]at this ⊢;exact this
  | _=>cases hk
theorem Sr{ts:Array TypeId}{ty:TypeId}{j:IntKind}{K:Value->Bool}:∀{l l':List Value} {x:Int},TM true l j x K=true->gO U l l'->∃y,K (.int j y)=true/\∀w,(Builtin.max_ ts ty ⟨.int j x::l'⟩).run P w= .ok (.int j y) w:=by
 intro l;induction l with
 | nil=>intro l' x hk hl;cases hl.jY;exact⟨x,hk,fun w=>by simp [Builtin.max_]⟩
 | cons v l ih=>
  intro l' x hk hl;obtain⟨v',t',rfl,hv,ht⟩:=hl.dI;cases v with
  | int k y=>
   cases hv.of_flat rfl;have hk:cR (Mg x y) (TM true l j y K) (TM true l j x K)=true:=hk;rw [ND]at hk;by_cases hlt:x<y
   ·rw [decide_eq_true hlt]at hk
    obtain⟨z,hz,hr⟩:=ih hk ht;refine⟨z,hz,fun w=>?_⟩;have:=hr w;simp only [Builtin.max_,List.foldlM_cons,Builtin.max2,if_pos hlt,Sem.run_bind,Sem.run_pure,Result.andThen_ok]at this ⊢;exact this
   ·rw [decide_eq_false hlt]at hk
    obtain⟨z,hz,hr⟩:=ih hk ht;refine⟨z,hz,fun w=>?_⟩;have:=hr w;simp only [Builtin.max_,List.foldlM_cons,Builtin.max2,if_neg hlt,Sem.run_bind,Sem.run_pure,Result.andThen_ok]at this ⊢;exact this
  | _=>cases hk
theorem XT (h:Rel P w0 U Sz w){b:Builtin}{ts:Array TypeId}{ty:TypeId}{cs:Array Bool}{args args':List Value}{K:VK} (hk:sC P b ts.toList args Sz K=true) (ha:gO U args args'):
 Out P w0 U w K (builtin b ts ty cs ⟨args'⟩):=by
 unfold sC at hk;split at hk
 ·
   rename_i x;obtain⟨x',t',rfl,hx,ht'⟩:=ha.dI;cases ht'.jY;split at hk
   ·rename_i t rest hts
    have h0:ts[0]? =some t:=by have:=congrArg (·[0]?) hts;simpa using this
    split at hk
    ·rename_i base n c
     split at hk
     ·rename_i e he
      have hu:=eR he;refine Out.here h hk (v':= .int .i64 (n:Int)) .nat ?_;have main:∀b' c',(Builtin.len_ ts ty ⟨[.slice b' n c']⟩).run P w= .ok (.int .i64 (n:Int)) w:=fun b' c'=>by simp [Builtin.len_,h0,run_underlying hu,goInt]
      cases hx with
      | flat _=>exact main _ _
      | slice _=>exact main _ _
      | lU _ _ _ _ _=>exact main _ _
      | uM=>exact main _ _
      | uN _=>exact main _ _
     ·cases hk
    ·rename_i s
     cases hx.of_flat rfl;split at hk
     ·rename_i hu
      rw [cV]at hk;refine Out.here h hk (v':= .int .i64 (s.data.toList.length:Int)) .nat ?_;simp [Builtin.len_,h0,run_underlying hu,goInt]
     ·cases hk
    ·rename_i r
     split at hk
     ·rename_i q hm
      have hu:=RP hm;rcases Sm hk with ⟨e1,hk2⟩ | ⟨r,es,c,e1,ho,hk2⟩
      ·rw [e1]at hx
       cases hx.of_flat rfl;exact Out.here h hk2 (v':= .int .i64 0) (.flat rfl) (by simp [Builtin.len_,h0,run_underlying hu,goInt])
      ·rw [e1]at hx
       obtain⟨L,hL,rfl⟩:=hx.Eh;obtain⟨es',_,hb,hes⟩:=h.map ho hL;simp only [cV]at hk2;refine Out.here h hk2 (v':= .int .i64 (es.length:Int)) .nat ?_;have hl:es'.size=es.length:=by rw [hes.1];rfl
       simp [Builtin.len_,h0,run_underlying hu,MapKept.run_getObj_map hb,goInt,hl]
     ·cases hk
    ·split at hk
     ·rename_i n e hu
      exact Out.here h hk (v':= .int .i64 (n:Int)) .nat (by simp [Builtin.len_,h0,run_underlying hu,goInt])
     ·cases hk
    ·cases hk
   ·cases hk
 ·obtain⟨s',t1,rfl,hs,ht1⟩:=ha.dI
  obtain⟨x',t2,rfl,hx,ht2⟩:=ht1.dI;cases ht2.jY;exact Out.new (Ax h hk hs hx)
 ·obtain⟨s',t1,rfl,hs,ht1⟩:=ha.dI
  obtain⟨x',t2,rfl,hx,ht2⟩:=ht1.dI;cases ht2.jY;obtain⟨v,S',v',w',h1,h2,h3,h4,h5⟩:=Hw h hk hs hx;exact Out.new ⟨U,v,S',v',w',h1,h2,h3,h4,h5⟩
 ·obtain⟨s',t1,rfl,hs,ht1⟩:=ha.dI
  obtain⟨x',t2,rfl,hx,ht2⟩:=ht1.dI;cases ht2.jY;obtain⟨S',w',h1,h2,h3,h4⟩:=At (t:=ty) h hk hs hx;exact Out.new ⟨U,_,S',_,w',h1,h4,.undef,h2,h3⟩
 ·rename_i j x l
  obtain⟨s',t1,rfl,hs,ht1⟩:=ha.dI;cases hs.of_flat rfl;obtain⟨y,hk,hrun⟩:=Sq hk ht1;exact Out.here h hk (.flat rfl) (hrun w)
 ·rename_i j x l
  obtain⟨s',t1,rfl,hs,ht1⟩:=ha.dI;cases hs.of_flat rfl;obtain⟨y,hk,hrun⟩:=Sr hk ht1;exact Out.here h hk (.flat rfl) (hrun w)
 ·
   rename_i x;obtain⟨x',t',rfl,hx,ht'⟩:=ha.dI;cases ht'.jY;split at hk
   ·rename_i t rest hts
    have h0:ts[0]? =some t:=by have:=congrArg (·[0]?) hts;simpa using this
    split at hk
    ·rename_i c he
     have hu:=eR he;cases hx.of_flat rfl;exact Out.here h hk (v':= .int .i64 (c:Int)) .nat (by simp [Builtin.cap_,h0,run_underlying hu,goInt])
    ·rename_i c he
     have hu:=eR he;rcases hx.iN with ⟨L,c1,hL,rfl,⟨_,rfl⟩ | ⟨hs,_⟩⟩ | ⟨⟨_,hs⟩,_⟩
     ·exact Out.here h hk (v':= .int .i64 (c1:Int)) .nat (by simp [Builtin.cap_,h0,run_underlying hu,goInt])
     ·cases hs
     ·cases hs
    ·cases hk
   ·cases hk
 ·
   rename_i base n c;obtain⟨s',t1,rfl,hs,ht1⟩:=ha.dI;cases ht1.jY;split at hk
   ·rename_i t rest hts
    have h0:ts[0]? =some t:=by have:=congrArg (·[0]?) hts;simpa using this
    split at hk
    ·rename_i elem he
     have hu:=eR he;split at hk
     ·rename_i size zero hsz hz
      split at hk
      ·cases hs.of_flat rfl
       exact Out.here h hk .undef (v':= .tuple #[]) (by simp [Builtin.clear_,h0,run_underlying hu])
      ·refine Out.here h hk .undef (v':= .tuple #[]) ?_
       have main:∀b' c',(Builtin.clear_ ts ty ⟨[.slice b' 0 c']⟩).run P w= .ok (.tuple #[]) w:=fun b' c'=>by cases b'<;>simp [Builtin.clear_,h0,run_underlying hu]
       cases hs with
       | flat _=>exact main _ _
       | slice _=>exact main _ _
       | lU _ _ _ _ _=>exact main _ _
       | uM=>exact main _ _
       | uN _=>exact main _ _
      ·rename_i i o sp n
       split at hk
       ·rename_i q hsp TO hzl
        rw [CA]at hk;rw [jW]at TO;have aEy:∀v∈zero,cD v=true:=List.all_eq_true.1 TO;have hzl:=Nat.eq_of_beq_eq_true hzl;have Hr:gO U (List.replicate (n+1) zero).flatten (List.replicate (n+1) zero).flatten:=(gO.flat aEy).flatten _;rcases hs.iN with ⟨L,c',hL,rfl,_⟩ | ⟨⟨_,hsp1⟩,_⟩
        ·obtain⟨S',w',hk,r1,r2,hrun⟩:=kP h hk hL Hr (fun v hv=>by
          simp only [List.mem_flatten,List.mem_replicate]at hv;obtain⟨l,⟨_,rfl⟩,hv⟩:=hv;have:=aEy v hv;cases v<;>first | rfl | (simp [cD]at this))
         exact Out.new ⟨U,_,S',_,w',hk,Ml h0 hu hz (by omega) (by intro e;rw [e]at hzl;simp at hzl) hrun,.undef,r1,r2⟩
        ·rw [hsp1]at hsp;cases hsp
       ·cases hk
     ·cases hk
    ·cases hk
   ·cases hk
 ·cases hk
end ops
theorem ME{P:Program}{t:TypeId}{i:TypeInfo} (h:P.info? t=some i) (w:World):(typeInfo t).run P w= .ok i w:=by
 simp [typeInfo,h]
theorem Ay{P:Program}{t:TypeId}{name:String}{g:FuncId} (h:lT P t name=some g) (x:Value) (w:World):(nilAhead (P.types.size+Made.depth) t x name).run P w= .ok (some false) w:=by
 unfold lT at h;split at h
 ·rename_i info d hi hd
  split at h
  ·rename_i m hm
   split at h
   ·rename_i g' pr hp hf
    have hp:m.path= #[]:=Array.toList_inj.1 (by simpa using hp);have hfuel:P.types.size+Made.depth=(P.types.size+99)+1:=rfl;rw [hfuel];unfold nilAhead;simp only [Sem.run_bind,ME hi,Result.andThen_ok,hm,hp];unfold followBlind;simp only [Sem.run_pure,Result.andThen_ok,hf];cases pr with
    | true=>rfl
    | false=>
     simp only [Sem.run_bind,run_underlying hd,Result.andThen_ok];revert h hd;cases d<;>intro hd h<;>first | rfl | cases h
   ·cases h
  ·cases h
 ·cases h
theorem CD{P:Program}{t:TypeId}{name:String}{g:FuncId} (h:lT P t name=some g) (x:Value) (w:World):
 (do
  if(<-nilAhead ((<-program).types.size+Made.depth) t x name) != some false then
   unsupported (.noEntry "op/nilCheck.the method's receiver behind this interface value is a nil pointer, or cannot be seen to be none, and the arguments act or may panic (ledger 612)")
  pure (.value (.func (.method name) ⟨[.iface t x]⟩ ⟨[]⟩)):Sem Go.Next).run P w= .ok (.value (.func (.method name) ⟨[.iface t x]⟩ ⟨[]⟩)) w:=by
 simp only [Sem.run_bind,run_program,Result.andThen_ok,Ay h];rfl
section ops
variable{E:Env}{w0:World}{U:Rn}{Sz:St}{w:World}
theorem gO.map_toArray{f:Operand->Value}{vs:List Value}{xs:Array Operand} (h:gO U vs (xs.toList.map f)):gO U (⟨vs⟩:Array Value).toList (xs.map f).toList:=by simpa using h
def Quiet (o:Oper):Prop:=∀c,o.op= .call c->∃b,c.callee= .builtin b
theorem Ss (h:Rel E.P w0 U Sz w){A:bG}{a:Act} (hA:tE E.P U A a){o:Oper} (hq:Quiet o){K:VK} (hk:vU E o A Sz K=true):Out E.P w0 U w K (execOp a.eval o):=by
 unfold vU at hk;unfold execOp;split at hk<;>rename_i hop<;>simp only [hop]
 ·obtain⟨v,hk,hv⟩:=aO h hA hk
  exact⟨_,U,v,Sz,_,w,hk,rfl,.inl rfl,hv,h,.refl U w⟩
 ·obtain⟨v,hk,hv⟩:=aO h hA hk
  exact⟨_,U,v,Sz,_,w,hk,rfl,.inl rfl,hv,h,.refl U w⟩
 ·obtain⟨c,hk,hc⟩:=aO h hA hk
  obtain⟨x,hk,hx⟩:=aO h hA hk;obtain⟨y,hk,hy⟩:=aO h hA hk;split at hk
  ·have:=hc.of_flat rfl
   exact⟨_,U,_,Sz,_,w,hk,by simp [this,asBool],.inl rfl,hx,h,.refl U w⟩
  ·have:=hc.of_flat rfl
   exact⟨_,U,_,Sz,_,w,hk,by simp [this,asBool],.inl rfl,hy,h,.refl U w⟩
  ·cases hk
 ·exact Out.new (Ee h hk)
 ·obtain⟨v,hk,hv⟩:=aO h hA hk
  exact Out.new (Mj h hk hv)
 ·obtain⟨v,v',hk,hv,hr⟩:=OI h hA hk
  exact Out.here h hk hv (hr w)
 ·exact Out.new (OJ h hA hk)
 ·obtain⟨x,hk,hx⟩:=aO h hA hk
  obtain⟨v,v',hk,hv,hr⟩:=IJ h hk hx;exact Out.here h hk hv hr
 ·obtain⟨x,hk,hx⟩:=aO h hA hk
  obtain⟨y,hk,hy⟩:=aO h hA hk;exact Out.unit (Em h hk hx hy)
 ·obtain⟨x,hk,hx⟩:=aO h hA hk
  split at hk
  ·rename_i ad
   obtain⟨i,off,sp⟩:=ad;have hx2:=hx;obtain⟨_,L,hL,e⟩:=hx.sV;rw [e]at hx2 ⊢;exact⟨_,U,_,Sz,_,w,hk,rfl,.inl rfl,hx2,h,.refl U w⟩
  ·rename_i f x1 x2
   generalize hg:a.eval _=v' at hx ⊢;cases hx with
   | flat hf=>simp [cD]at hf
   | func h1 h2 h3 h4=>exact⟨_,U,_,Sz,_,w,hk,rfl,.inl rfl,.func h1 h2 h3 h4,h,.refl U w⟩
  ·rename_i f x1 x2
   generalize hg:a.eval _=v' at hx ⊢;cases hx with
   | flat hf=>simp [cD]at hf
   | yield h1=>exact⟨_,U,_,Sz,_,w,hk,rfl,.inl rfl,.yield h1,h,.refl U w⟩
  ·rename_i s t x1
   generalize hg:a.eval _=v' at hx ⊢;cases hx with
   | flat hf=>simp [cD]at hf
   | meth h1=>
    cases h1 with
    | flat hf=>simp [cD]at hf
    | iface h2=>
     split at hk
     ·rename_i g hm
      exact⟨_,U,_,Sz,_,w,hk,CD hm _ w,.inl rfl,.meth (.iface h2),h,.refl U w⟩
     ·cases hk
  ·rename_i t x1
   generalize hg:a.eval _=v' at hx ⊢;cases hx with
   | flat hf=>simp [cD]at hf
   | iface h1=>exact⟨_,U,_,Sz,_,w,hk,rfl,.inl rfl,.iface h1,h,.refl U w⟩
  ·cases hk
 ·obtain⟨x,hk,hx⟩:=aO h hA hk
  obtain⟨y,hk,hy⟩:=aO h hA hk;obtain⟨v,hk,hf,hr⟩:=XU hk hx hy;exact Out.here h hk (.flat hf) (hr _ _ w)
 ·obtain⟨x,hk,hx⟩:=aO h hA hk
  obtain⟨v,hk,hf,hr⟩:=Cl (P:=E.P) hk hx;exact Out.here h hk (.flat hf) (hr w)
 ·obtain⟨x,hk,hx⟩:=aO h hA hk
  exact Out.new (Hs h hk hx)
 ·obtain⟨x,hk,hx⟩:=aO h hA hk
  split at hk
  ·cases hk
  ·rename_i d hd hu
   refine Out.here h hk (.iface hx) ?_;simp only [Instr.makeInterface,Sem.run_bind,run_underlying hu,Result.andThen_ok];cases d<;>first | rfl | exact absurd hu (hd _)
  ·cases hk
 ·split at hk
  ·obtain⟨x,hk,hx⟩:=tF h hA hk
   obtain⟨y,hk,hy⟩:=tF h hA hk;have hx:=hx.map_toArray;have hy:=hy.map_toArray;exact Out.here h hk (.func hx.1 hy.1 hx.2 hy.2) rfl
  ·split at hk
   ·rename_i x hx1 hx2
    obtain⟨v,hk,hv⟩:=aO h hA hk;have e1:=Array.toList_inj.1 (show _=(⟨[x]⟩:Array Operand).toList from hx1);have e2:=Array.toList_inj.1 (show _=(⟨[]⟩:Array Operand).toList from hx2);subst e1 e2;exact Out.here h hk (.meth hv) (by simp [Instr.makeFunc])
   ·cases hk
  ·cases hk
 ·exact Out.new (IH h hk)
 ·obtain⟨x,hk,hx⟩:=aO h hA hk
  exact Out.new (XP h hx hk)
 ·obtain⟨x,hk,hx⟩:=aO h hA hk
  exact Out.new (Au h hk hx)
 ·obtain⟨x,hk,hx⟩:=aO h hA hk
  split at hk
  ·cases hk
  ·obtain⟨v,S',v',w',h1,h2,h3,h4,h5⟩:=Hu (ty:=o.type) h hk hx
   exact Out.new ⟨U,v,S',v',w',h1,h2,h3,h4,h5⟩
 ·obtain⟨x,hk,hx⟩:=aO h hA hk
  obtain⟨v,v',hk,hv,hr⟩:=Ei h hk hx;exact Out.here h hk hv hr
 ·rename_i x xT as ok
  obtain⟨v,hk,hv⟩:=aO h hA hk;split at hk
  ·cases hk
  ·rename_i t u d hni hd
   generalize a.eval x=v' at hv ⊢;cases hv with
   | flat hf=>simp [cD]at hf
   | iface hu=>
    cases hb:Nat.beq t as with
    | false=>rw [hb]at hk;cases ok<;>cases hk
    | true=>
     rw [hb]at hk;have e:=Nat.eq_of_beq_eq_true hb;cases ok with
     | true=>exact Out.here h hk (.uQ (.cons hu (.cons (.flat rfl) (.nil U)))) (II hd (fun ms e=>hni ms e) e)
     | false=>exact Out.here h hk hu (II hd (fun ms e=>hni ms e) e)
  ·cases hk
 ·obtain⟨x,hk,hx⟩:=aO h hA hk
  obtain⟨y,hk,hy⟩:=aO h hA hk;exact Out.new (RO h hk hx hy)
 ·rename_i t x lo hi mx
  have hmh:mx.map a.eval=none\/hi.map a.eval≠none:=by
   cases mx with
   | none=>exact .inl rfl
   | some m=>cases hi with
    | none=>exact absurd hk (by simp)
    | some _=>exact .inr (by simp)
  replace hk:(rK A x fun x=>XK A lo fun lo=>XK A hi fun hi=>XK A mx fun mx=>wA E.P t x lo hi mx Sz fun v=>K v Sz)=true:=by
   cases mx<;>cases hi<;>first | exact hk | cases hk
  obtain⟨x,hk,hx⟩:=aO h hA hk;obtain⟨lo,hk,hlo⟩:=wI h hA hk;obtain⟨hi,hk,hhi⟩:=wI h hA hk;obtain⟨mx,hk,hmx⟩:=wI h hA hk
  have hO:∀(x:Option Operand) (v:Option Value),(v=none/\x=none\/∃u y,v=some u/\x=some y/\VR U u (a.eval y))->VF U v (x.map a.eval):=by
   intro x v hv;rcases hv with ⟨rfl,rfl⟩ | ⟨u,y,rfl,rfl,hr⟩
   ·exact .inl ⟨rfl,rfl⟩
   ·exact .inr ⟨u,_,rfl,rfl,hr⟩
  obtain⟨v,v',hk,hv,hr⟩:=OP h hk hx (hO _ _ hlo) (hO _ _ hhi) (hO _ _ hmx) hmh;exact Out.here h hk hv (hr w)
 ·obtain⟨x,hk,hx⟩:=aO h hA hk
  obtain⟨v,v',hk,hv,hr⟩:=DR hk hx;exact Out.here h hk hv (hr w)
 ·obtain⟨x,hk,hx⟩:=aO h hA hk
  obtain⟨v,v',hk,hv,hr⟩:=OG hk hx;exact Out.here h hk hv (hr w)
 ·obtain⟨x,hk,hx⟩:=aO h hA hk
  obtain⟨y,hk,hy⟩:=aO h hA hk;obtain⟨v,v',hk,hv,hr⟩:=DQ hk hx hy;exact Out.here h hk hv (hr w)
 ·obtain⟨x,hk,hx⟩:=aO h hA hk
  obtain⟨y,hk,hy⟩:=aO h hA hk;obtain⟨v,v',hk,hv,hr⟩:=OH hk hx hy;exact Out.here h hk hv (hr w)
 ·obtain⟨x,hk,hx⟩:=aO h hA hk
  obtain⟨y,hk,hy⟩:=aO h hA hk;obtain⟨v,v',hk,hv,hr⟩:=MD h hk hx hy;exact Out.here h hk hv hr
 ·obtain⟨x,hk,hx⟩:=aO h hA hk
  obtain⟨y,hk,hy⟩:=aO h hA hk;obtain⟨z,hk,hz⟩:=aO h hA hk;exact Out.unit (DV h hk hx hy hz)
 ·obtain⟨x,hk,hx⟩:=aO h hA hk
  obtain⟨y,hk,hy⟩:=aO h hA hk;obtain⟨z,hk,hz⟩:=aO h hA hk;exact Out.unit (DV h hk hx hy hz)
 ·obtain⟨x,hk,hx⟩:=aO h hA hk
  obtain⟨y,hk,hy⟩:=aO h hA hk;obtain⟨v,S',v',w',hk,hv,r1,r2,hr⟩:=VE h hk hx hy;exact Out.new ⟨U,v,S',v',w',hk,hr,hv,r1,r2⟩
 ·obtain⟨x,hk,hx⟩:=aO h hA hk
  obtain⟨y,hk,hy⟩:=aO h hA hk;obtain⟨z,hk,hz⟩:=aO h hA hk;exact Out.unit (OM h hk hx hy hz)
 ·rename_i tt ix
  obtain⟨x,hk,hx⟩:=aO h hA hk;split at hk
  ·obtain⟨vs',e,hl⟩:=hx.DW
   obtain⟨v,hv,hk⟩:=DS hk;obtain⟨v',hv',hr⟩:=hl.get hv;refine Out.here h hk hr ?_;rw [e];have:vs'[ix]? =some v':=by simpa using hv'
   simp [Instr.extract,this]
  ·cases hk
 ·rename_i c
  obtain⟨b,hb⟩:=hq c hop;unfold sU at hk;obtain⟨args,hk,hargs⟩:=tF h hA hk;rw [hb]at hk;simp only at hk;have:=XT (ty:=o.type) (cs:=c.args.map fun | .const _=>true | _=>false) h hk hargs;have e:(⟨c.args.toList.map a.eval⟩:Array Value)=c.args.map a.eval:=by apply Array.toList_inj.1;simp
  rw [e]at this
  have e2:(do let d<-resolve a.eval c o.type;invoke d.target d.args:Sem Next)=builtin b c.argTypes o.type (c.args.map fun | .const _=>true | _=>false) (c.args.map a.eval):=by
   unfold resolve;rw [hb];rfl
  rw [e2];exact this
 ·cases hk
end ops
def OB (ro:Option Nat):Fence:={fn:=fun _=>True,depth:=none,alive:=false,round:=ro}
section walk
variable (P:Program) (w0:World)
def Good (U:Rn) (w:World) (K:VK) (v':Value) (w':World):Prop:=∃U' v S',K v S'=true/\VR U' v v'/\Rel P w0 U' S' w'/\Stp U w U' w'
def Back (U:Rn) (w:World) (K:VK) (e:Ending) (w':World):Prop:=∃v',e= .returned v'/\Good P w0 U w K v' w'
def iD (call:TK):Prop:=∀(f:FuncId) (args:List Value) (Sz:St) (K:VK) (U:Rn) (w:World) (args':List Value),call f args Sz K=true->Rel P w0 U Sz w->gO U args args'->
 (∀w,(callFunc f ⟨args'⟩).run P w= .ok (.enter f ⟨args'⟩) w)/\CallsIn (OB none) 0 P f ⟨args'⟩ w (Back P w0 U w K)
def lV (round:Nat->List Value->St->VK->Bool):Prop:=∀(l:Nat) (args:List Value) (Sz:St) (K:VK) (U:Rn) (w:World) (args':List Value) (L:Loc),round l args Sz K=true->Rel P w0 U Sz w->gO U args args'->U l=some L->
 ∃f tmps assign body,(Instr.yield L.b ⟨args'⟩).run P w= .ok (.round L.b f tmps assign body) w/\RoundIn (OB none) 0 P L.b f tmps assign body w (Back P w0 U w K)
def aCU (L:Loc):Deferred:={target:= .collected L.b,args:= #[]}
def En (U:Rn) (marks:List Nat) (ds:List Deferred):Prop:=ds.length=marks.length/\∀(k d:Nat),marks[k]? =some d->∃L,U d=some L/\ds[k]? =some (aCU L)
structure SR (U:Rn) (A:bG) (a:Act) (Sz:St) (w:World):Prop where
 act:tE P U A a
 rel:Rel P w0 U Sz w
 marks:En U A.marks a.defers
end walk
theorem En.mono{U U':Rn} (he:Ext U U'){m:List Nat}{d:List Deferred} (h:En U m d):En U' m d:=⟨h.1,fun k x hx=>let⟨L,a,b⟩:=h.2 k x hx;⟨L,he _ _ a,b⟩⟩
section walk
variable{E:Env}{w0:World}{U:Rn}{Sz:St}{w:World}{ro:Option Nat}
def Next (P:Program) (w0:World) (U:Rn) (w:World) (k:bG->St->Bool) (a':Act) (w':World):Prop:=∃U' A' S',k A' S'=true/\SR P w0 U' A' a' S' w'/\Stp U w U' w'
theorem Next.trans{P:Program}{U1:Rn}{w1:World}{k:bG->St->Bool}{a':Act}{w':World} (s:Stp U w U1 w1) (h:Next P w0 U1 w1 k a' w'):Next P w0 U w k a' w':=
 let⟨U',A',S',h1,h2,h3⟩:=h;⟨U',A',S',h1,h2,s.trans h3⟩
theorem IK{P:Program}{A:bG}{a:Act}{d:Option Tmp}{k:bG->St->Bool} (hs:SR P w0 U A a Sz w){v':Value}{w':World} (h:Good P w0 U w (fun v Sz=>lS A d v fun A=>k A Sz) v' w'):Next P w0 U w k (a.put d v') w':=by
 obtain⟨U',v,S',hk,hv,hr,hstp⟩:=h;obtain⟨A',hk,hA',hm⟩:=Hy (hs.act.mono hstp.ext) hv hk;refine⟨U',A',S',hk,⟨hA',hr,?_⟩,hstp⟩;rw [hm];have:(a.put d v').defers=a.defers:=by cases d<;>rfl
 rw [this];exact hs.marks.mono hstp.ext
def Xb:Value->Option Bool
 | .bool b=>some b
 | _=>none
theorem XV{ops:Array Oper}{tmps:Array Value}{j:Nat}{o:Oper}{d:Tmp}{v:Value} (h1:ops[j]? =some o) (h2:o.dst=some d) (h3:tmps[d]? =some v):yielded ops tmps j=Xb v:=by
 unfold yielded;rw [h1];simp only [Option.bind_some,h2,h3];cases v<;>rfl
theorem FQ{ops:Array Oper}{o:Oper}{A:bG}{a:Act} (hA:tE E.P U A a){k:Bool->Bool} (hk:AM ops o A k=true):k (Region.wanted o (yielded ops a.tmps))=true:=by
 unfold AM at hk;unfold Region.wanted;cases hg:o.guard with
 | none=>rw [hg]at hk;exact hk
 | some jw=>
  obtain⟨j,want⟩:=jw;rw [hg]at hk;simp only at hk ⊢;split at hk
  ·rename_i o' ho'
   split at hk
   ·rename_i d hd
    obtain⟨v,hv,hk⟩:=AR hk;obtain⟨v',hv',hr⟩:=hA.tmps.get hv;have hv2:a.tmps[d]? =some v':=by rw [<-hv'];simp
    have hy:=XV ho' hd hv2;rw [hy];split at hk
    ·rename_i b
     have e:=hr.of_flat rfl;rw [e];cases b<;>cases want<;>exact hk
    ·rename_i hnb
     have hb:Xb v'=none:=by
      cases v' with
      | bool b=>cases hr with | flat _=>exact absurd rfl (hnb b)
      | _=>rfl
     rw [hb];exact hk
   ·rename_i hd
    have hy:yielded ops a.tmps j=none:=by unfold yielded;rw [ho'];simp [hd]
    rw [hy];exact hk
  ·rename_i ho'
   have hy:yielded ops a.tmps j=none:=by unfold yielded;rw [ho'];simp
   rw [hy];exact hk
theorem XW (o:Oper) (P:Program) (w:World) (U:Operand->Value):∀f,o.about P w U=some f->(OB ro).fn f:=fun _ _=>trivial
theorem IL{P:Program}{n:Nat}{f:FuncId}{args:Array Value}{R:Ending->World->Prop} (h:CallsIn (OB none) n P f args w R):CallsIn (OB ro) n P f args w R:=h
theorem Hz{P:Program}{n l:Nat}{f:FuncId}{tmps:Array Value}{as bo:Code}{R:Ending->World->Prop} (h:RoundIn (OB none) n P l f tmps as bo w R):RoundIn (OB ro) n P l f tmps as bo w R:=h
theorem Mm{P:Program}{t:TypeId}{name:String}{g:FuncId} (h:lT P t name=some g) (x:Value) (args:Array Value) (w:World):(callMethod (.iface t x) name args).run P w=(callFunc g (#[x]++args)).run P w:=by
 unfold lT at h;split at h
 ·rename_i info d hi hd
  split at h
  ·rename_i m hm
   split at h
   ·rename_i g' pr hp hf
    have hp:m.path= #[]:=Array.toList_inj.1 (by simpa using hp);have hfuel:P.types.size+Made.depth=(P.types.size+99)+1:=rfl
    have hrec:(receiverAt t (.val x) pr (if m.path.isEmpty then some ((name.splitOn ".").getLastD name)else none)).run P w= .ok x w/\g'=g:=by
     unfold receiverAt;split at h
     ·injection h with h;subst h
      simp [run_underlying hd,Place.get]
     ·cases h
     ·rename_i hno
      injection h with h;subst h;refine⟨?_,rfl⟩;simp only [Sem.run_bind,run_underlying hd,Result.andThen_ok];cases d<;>first | rfl | (exact absurd rfl (hno _))
     ·cases h
    obtain⟨hrec,rfl⟩:=hrec
    have aEz:(method (P.types.size+Made.depth) t x name).run P w= .ok (g',x) w:=by
     rw [hfuel];unfold method;simp only [Sem.run_bind,ME hi,Result.andThen_ok,hm,hp];unfold follow;simp only [Sem.run_pure,Result.andThen_ok,hf];rw [hp]at hrec;simp only [Sem.run_bind,hrec,Result.andThen_ok,Sem.run_pure]
    simp only [callMethod,Sem.run_bind,run_program,Result.andThen_ok,aEz]
   ·cases h
  ·cases h
 ·cases h
theorem Xc (hc:iD E.P w0 E.call) (hr:lV E.P w0 E.round) (h:Rel E.P w0 U Sz w){A:bG}{a:Act} (hA:tE E.P U A a){o:Oper}{K:VK} (hk:vU E o A Sz K=true){next:Act->World->Prop}{Q:Exit->Act->World->Prop}
 (hn:∀v' w',Good E.P w0 U w K v' w'->next (a.put o.dst v') w'):o.wpIn (OB ro) 0 E.P a w next Q:=by
 refine⟨XW o _ _ _,?_⟩;by_cases hq:Quiet o
 ·obtain⟨r,U',v,S',v',w',h1,h2,h3,h4,h5,h6⟩:=Ss h hA hq hk
  have hno:∀c,o.op≠ .defer c:=fun c e=>by unfold vU at hk;rw [e]at hk;cases hk
  rw [Oper.semAt_eq _ _ _ hno,h2];rcases h3 with rfl | ⟨rfl,rfl⟩
  ·exact hn v' w' ⟨U',v,S',h1,h4,h5,h6⟩
  ·exact hn undef w' ⟨U',v,S',h1,h4,h5,h6⟩
 ·have:∃c,o.op= .call c/\∀b,c.callee≠ .builtin b:=by
   unfold Quiet at hq;simp only [Classical.not_forall]at hq;obtain⟨c,hc,hb⟩:=hq;exact⟨c,hc,fun b e=>hb ⟨b,e⟩⟩
  obtain⟨c,hop,hnb⟩:=this;rw [Oper.semAt_eq _ _ _ (fun d e=>by rw [hop]at e;cases e)];unfold vU at hk;unfold execOp;rw [hop]at hk ⊢;simp only at hk ⊢;unfold sU at hk;obtain⟨args,hk,hargs⟩:=tF h hA hk;split at hk
  ·rename_i b hb;exact absurd hb (hnb b)
  ·rename_i f hf
   obtain⟨fv,hk,hfv⟩:=aO h hA hk;split at hk
   ·rename_i g first captured
    rw [mV,mV]at hk;generalize hfe:a.eval f=fv' at hfv;cases hfv with
    | flat hfl=>simp [cD]at hfl
    | func h1 h2 h3 h4=>
     rename_i first' jC;have hf1:gO U first.toList first'.toList:=⟨by simpa using h1,h3⟩
     have hf2:gO U captured.toList jC.toList:=⟨by simpa using h2,h4⟩;obtain⟨he,hcall⟩:=hc g _ Sz K U w _ hk h ((hf1.append hargs).append hf2);have e1:(⟨first'.toList++c.args.toList.map a.eval++jC.toList⟩:Array Value)=(first'++c.args.map a.eval)++jC:=by apply Array.toList_inj.1;simp
     rw [e1]at he hcall
     have hrun:(do let d<-resolve a.eval c o.type;invoke d.target d.args:Sem Go.Next).run E.P w= .ok (.enter g ((first'++c.args.map a.eval)++jC)) w:=by
      simp only [Sem.run_bind,resolve,hf,hfe,Deferred.ofValue,Sem.run_pure,Result.andThen_ok,invoke];exact he w
     rw [hrun];refine⟨(fun hd=>nomatch hd),CallsIn.mono (IL hcall) ?_⟩
     rintro e w' ⟨v',rfl,hg⟩
     exact hn v' w' hg
   ·rename_i l first captured
    split at hk
    ·rename_i hl1 hl2
     have hl1:first= #[]:=Array.toList_inj.1 (by simpa using hl1)
     have hl2:captured= #[]:=Array.toList_inj.1 (by simpa using hl2);subst hl1 hl2;generalize hfe:a.eval f=fv' at hfv;cases hfv with
     | flat hfl=>simp [cD]at hfl
     | yield hL=>
      rename_i L;obtain⟨fn,tmps,as,bo,hy,aCV⟩:=hr l args Sz K U w _ L hk h hargs hL;have e1:(⟨c.args.toList.map a.eval⟩:Array Value)= #[]++c.args.map a.eval:=by apply Array.toList_inj.1;simp
      rw [e1]at hy
      have hrun:(do let d<-resolve a.eval c o.type;invoke d.target d.args:Sem Go.Next).run E.P w= .ok (.round L.b fn tmps as bo) w:=by
       simp only [Sem.run_bind,resolve,hf,hfe,Deferred.ofValue,Sem.run_pure,Result.andThen_ok,invoke];exact hy
      rw [hrun];refine⟨(fun hd=>nomatch hd),RoundIn.mono (Hz aCV) ?_⟩
      rintro e w' ⟨v',rfl,hg⟩
      exact hn v' w' hg
    ·cases hk
   ·cases hk
  ·rename_i r m hf
   obtain⟨fv,hk,hfv⟩:=aO h hA hk;split at hk
   ·rename_i t x
    split at hk
    ·rename_i g hg
     generalize hfe:a.eval r=fv' at hfv;cases hfv with
     | flat hfl=>simp [cD]at hfl
     | @iface _ _ x' hx=>
      obtain⟨he,hcall⟩:=hc g _ Sz K U w _ hk h (gO.cons hx hargs);have e1:(⟨x'::c.args.toList.map a.eval⟩:Array Value)= #[x']++c.args.map a.eval:=by apply Array.toList_inj.1;simp
      rw [e1]at he hcall
      have hrun:(do let d<-resolve a.eval c o.type;invoke d.target d.args:Sem Go.Next).run E.P w= .ok (.enter g (#[x']++c.args.map a.eval)) w:=by
       simp only [Sem.run_bind,resolve,hf,hfe,Sem.run_pure,Result.andThen_ok,invoke];have e2:(#[Value.iface t x']++c.args.map a.eval)[0]? =some (Value.iface t x'):=by rw [Array.getElem?_append_left (by simp)];rfl
       have e3:(#[Value.iface t x']++c.args.map a.eval).extract 1 (#[Value.iface t x']++c.args.map a.eval).size=c.args.map a.eval:=by
        apply Array.toList_inj.1;simp [Array.toList_extract,List.extract];exact List.take_of_length_le (by simp)
       simp only [e2,e3];exact(Mm hg x' _ w).trans (he w)
      rw [hrun];refine⟨(fun hd=>nomatch hd),CallsIn.mono (IL hcall) ?_⟩
      rintro e w' ⟨v',rfl,hg⟩
      exact hn v' w' hg
    ·cases hk
   ·cases hk
theorem aBa (hc:iD E.P w0 E.call) (hr:lV E.P w0 E.round){ops:Array Oper}{k:bG->St->Bool}{Q:Exit->Act->World->Prop}:∀(l:List Oper) {U:Rn} {A:bG} {a:Act} {Sz:St} {w:World},OD E ops l A Sz k=true->SR E.P w0 U A a Sz w->
 (∀a' w',Next E.P w0 U w k a' w'->Q .normal a' w')->wpListIn (OB ro) 0 E.P ops Q l a w:=by
 intro l;induction l with
 | nil=>intro U A a Sz w hk hs hQ;exact hQ a w ⟨U,A,Sz,hk,hs,.refl U w⟩
 | cons o l ih=>
  intro U A a Sz w hk hs hQ;have hk:Ci E ops o A Sz (OD E ops l · · k)=true:=hk;unfold Ci at hk;have hk:=FQ hs.act hk;unfold wpListIn
  have go:∀a' w',Next E.P w0 U w (OD E ops l · · k) a' w'->wpListIn (OB ro) 0 E.P ops Q l a' w':=by
   rintro a' w' ⟨U',A',S',h1,h2,h3⟩
   exact ih h1 h2 fun a2 w2 h=>hQ a2 w2 (h.trans h3)
  cases hw:Region.wanted o (yielded ops a.tmps)with
  | true=>
   rw [hw]at hk;simp only [if_true];have hk:vU E o A Sz (fun v Sz=>lS A o.dst v fun A=>OD E ops l A Sz k)=true:=hk;exact Xc hc hr hs.rel hs.act hk fun v' w' hg=>go _ _ (IK hs hg)
  | false=>
   rw [hw]at hk;simp only [Bool.false_eq_true,if_false];have hk:lS A o.dst undef (fun A=>OD E ops l A Sz k)=true:=hk;exact⟨XW o _ _ _,go _ _ (IK (k:=fun A Sz=>OD E ops l A Sz k) hs ⟨U,undef,Sz,hk,.undef,hs.rel,.refl U w⟩)⟩
end walk
section scope
variable{F:Fence}{n:Nat}{P:Program}{Q:Exit->Act->World->Prop}{a:Act}{w:World}{b:Frame}{k:List Item}{cs:List Frame}
theorem tR{c:Code}:step P (lone (b.atR a (.code (.scope c)::k)) cs w)= .next (lone (b.atR a (.code c:: .inScope c::k)) cs w):=step_lone_go (by simp [stepG,stepG.exec,Frame.atR])
theorem Az{c:Code}:step P (lone (b.atR a (.inScope c::k)) cs w)= .next (lone (b.atR a k) cs w):=step_lone_go (by simp [stepG,stepG.exec,Frame.atR])
theorem XX{c:Code} (h:c.wpIn F n P (Exit.noGoto Q) a w):(Code.scope c).wpIn F n P Q a w:=by
 intro b k cs hro hb hr;have h0:(lone (b.atR a (.code (.scope c)::k)) cs w).fenced P F:=fenced_calm hb hr rfl;obtain⟨e,a₁,w₁,hq,harr⟩:=h b (.inScope c::k) cs hro hb hr;cases e with
 | normal=>exact⟨.normal,a₁,w₁,hq,.head h0 tR (StepsIn.trans harr (.one (fenced_calm hb hr rfl) Az))⟩
 | exit id=>
  have hx:exitTo id (.inScope c::k)=exitTo id k:=by simp [exitTo]
  exact⟨.exit id,a₁,w₁,hq,fun k' hk=> .head h0 tR (harr.1 k' (by rw [hx];exact hk)),
   fun hr' hk=>let⟨k₁,h1,h2⟩:=harr.2 hr' (by rw [hx];exact hk);⟨k₁,h1,.head h0 tR h2⟩⟩
 | goto l=>exact hq.elim
 | ret=>exact⟨.ret,a₁,w₁,hq,.of_steps (.one h0 tR) harr⟩
 | panic ch=>exact⟨.panic ch,a₁,w₁,hq,.of_steps (.one h0 tR) harr⟩
 | outgrown=>exact⟨.outgrown,a₁,w₁,hq,.of_steps (.one h0 tR) harr⟩
end scope
def exR:OC->Exit
 | .normal=> .normal
 | .exit id=> .exit id
 | .ret=> .ret
section walk
variable{E:Env}{w0:World}
def Arr (P:Program) (w0:World) (U:Rn) (w:World) (K:OE) (e:Exit) (a':Act) (w':World):Prop:=∃U' ae A' S',e=exR ae/\K ae A' S'=true/\SR P w0 U' A' a' S' w'/\Stp U w U' w'
theorem Arr.trans{P:Program}{U U1:Rn}{w w1:World}{K:OE}{e:Exit}{a':Act}{w':World} (s:Stp U w U1 w1) (h:Arr P w0 U1 w1 K e a' w'):Arr P w0 U w K e a' w':=
 let⟨U',ae,A',S',h0,h1,h2,h3⟩:=h;⟨U',ae,A',S',h0,h1,h2,s.trans h3⟩
def RoR (U:Rn) (r ro:Option Nat):Prop:=(r=none/\ro=none)\/∃l L,r=some l/\U l=some L/\ro=some L.b
theorem RoR.mono{U U':Rn} (he:Ext U U'){r ro:Option Nat} (h:RoR U r ro):RoR U' r ro:=by
 rcases h with h | ⟨l,L,h1,h2,h3⟩
 ·exact .inl h
 ·exact .inr ⟨l,L,h1,he _ _ h2,h3⟩
abbrev DrT:=Array Oper->bG->St->(bG->St->Bool)->Bool
def Xd (E:Env) (w0:World) (dr:DrT):Prop:=∀(ops:Array Oper) (A:bG) (Sz:St) (k:bG->St->Bool) (U:Rn) (a:Act) (w:World) (ro:Option Nat) (id:Nat) (Q:Exit->Act->World->Prop),dr ops A Sz k=true->SR E.P w0 U A a Sz w->
 (∀a' w',Next E.P w0 U w k a' w'->Q .normal a' w')->(Code.region id ops true).wpIn (OB ro) 0 E.P Q a w
theorem exists_least{p:Nat->Prop} (h:∃m,p m):∃m,p m/\∀j,p j->m<=j:=by
 obtain⟨m,hm⟩:=h;induction m using Nat.strongRecOn with
 | _ m ih=>
  by_cases hl:∃j,j<m/\p j
  ·obtain⟨j,hj,hp⟩:=hl;exact ih j hj hp
  ·exact⟨m,hm,fun j hj=>Nat.le_of_not_lt fun hlt=>hl ⟨j,hlt,hj⟩⟩
noncomputable def least (p:Nat->Prop):Nat:=open Classical in if h:∃m,p m then(exists_least h).choose else 0
theorem FR{p:Nat->Prop}{m:Nat} (h:p m):p (least p)/\least p<=m:=by
 have hx:∃m,p m:=⟨m,h⟩;unfold least;rw [dif_pos hx];exact⟨(exists_least hx).choose_spec.1,(exists_least hx).choose_spec.2 m h⟩
noncomputable def Xe (body:bG->St->OE->Bool) (K:OE) (m:Nat):bG->St->Bool:=
 ID (β:=bG->St->Bool) (fun _ _=>false) (fun _ ih A Sz=>body A Sz fun e A Sz=>match e with | .normal=>ih A Sz | e=>K e A Sz) m
theorem qL{U:Rn}{Sz:St}{w:World}{P:Program} (h:Rel P w0 U Sz w){l:Nat}{tm:Tm}{ps:List Tmp}{as bo:Code}{st:LoopState}{pe:Option Code} (ho:Sz.obj l=some (.loop tm ps as bo st pe)){L:Loc} (hL:U l=some L):
 ∃r,w0.heap.size<=L.b/\w.heap[L.b]? =some (.loop r)/\r.state=st/\r.pending=pe/\r.params.toList=ps/\r.assign=as/\r.body=bo/\Ia U tm r.tmps.toList:=by
 obtain⟨M,r,h1,h2⟩:=h.DU l _ ho;rw [hL]at h1;injection h1 with h1;subst h1;exact⟨r,h2⟩
theorem IM{U:Rn}{Sz:St}{w:World}{P:Program} (h:Rel P w0 U Sz w){l:Nat}{tm:Tm}{ps:List Tmp}{as bo:Code}{st:LoopState}{pe:Option Code} (ho:Sz.obj l=some (.loop tm ps as bo st pe)){L:Loc} (hL:U l=some L)
 {r:Loop} (hb:w0.heap.size<=L.b) (hr:w.heap[L.b]? =some (.loop r)) (hps:r.params.toList=ps) (has:r.assign=as) (Su:r.body=bo) (htm:Ia U tm r.tmps.toList) (st':LoopState) (pe':Option Code):
 Rel P w0 U (Sz.set l (.loop tm ps as bo st' pe')) (w.putObj L.b (.loop {r with state:=st',pending:=pe'}))/\Stp U w U (w.putObj L.b (.loop {r with state:=st',pending:=pe'}))/\
  (setObj L.b (.loop {r with state:=st',pending:=pe'})).run P w= .ok () (w.putObj L.b (.loop {r with state:=st',pending:=pe'})):=by
 obtain⟨r1,r2⟩:=h.aEu (o':= .loop tm ps as bo st' pe') ho rfl rfl rfl hL hb rfl (.loop {r with state:=st',pending:=pe'}) (fun hh=>⟨L,_,hL,hb,hh,rfl,rfl,hps,has,Su,htm⟩);exact⟨r1,r2,by simp [setObj,Sem.run,hr];rfl⟩
theorem run_getLoop{P:Program}{w:World}{b:Nat}{r:Loop} (h:w.heap[b]? =some (.loop r)):(Instr.getLoop b).run P w= .ok r w:=by
 simp [Instr.getLoop,getObj,Sem.run,h]
theorem kQ{Sz:St}{l:Nat}{k:fS->Bool} (h:uI Sz.h l k=true):∃o,Sz.obj l=some o/\k o=true:=by
 rw [CB]at h;cases ho:Sz.h.get l with
 | none=>rw [ho]at h;cases h
 | some o=>rw [ho]at h;exact⟨o,ho,h⟩
end walk
section walk
variable{E:Env}{w0:World}
theorem Ib (P:Program) (o:Obj) (w:World):(newObj o).run P w= .ok w.heap.size (w.alloc o):=rfl
theorem XY (hc:iD E.P w0 E.call){params:Array Tmp}{assign body:Code}{U:Rn}{A:bG}{a:Act}{Sz:St}{w:World}{K:OE}{ro:Option Nat}{Q:Exit->Act->World->Prop}{g:FuncId}{first captured:List Value}{first' jC:Array Value}
 (h:Rel E.P w0 U Sz w) (hA:tE E.P U A a) (hD:En U A.marks a.defers) {R:Loop} (h1:R.state= .ready) (h2:R.pending=none) (h3:R.tmps=a.tmps) (h4:R.params=params) (h5:R.assign=assign) (h6:R.body=body)
 (hf:gO U first first'.toList) (hcap:gO U captured jC.toList)
 (hk:(qZ Sz (.loop A.tmps params.toList assign body .ready none) fun l Sz=>
  AL first [.func (.yield l) #[] #[]] fun as=>AL as captured fun as=>E.call g as Sz fun _ Sz=>
   uI Sz.h l fun o=>match o with
    | .loop tm ps as bo st pe=>match st with
     | .busy=>false
     | _=>uG Sz l (.loop tm ps as bo .exhausted pe) fun Sz=>match pe with
      | none=>K .normal A Sz
      | some .ret=>K .ret A Sz
      | some (.exit id)=>K (.exit id) A Sz
      | _=>false
    | _=>false)=true)
 (hQ:∀e a' w',Arr E.P w0 U w K e a' w'->Q e a' w'):
 (∀w',(callFunc g ((first'++ #[.func (.yield w.heap.size) #[] #[]])++jC)).run E.P w'= .ok (.enter g ((first'++ #[.func (.yield w.heap.size) #[] #[]])++jC)) w')/\
  CallsIn (OB ro) 0 E.P g ((first'++ #[.func (.yield w.heap.size) #[] #[]])++jC) (w.alloc (.loop R)) (rangePost (OB ro) 0 E.P w.heap.size Q a):=by
 rw [gE]at hk
 obtain⟨r1,s1⟩:=h.new (.loop A.tmps params.toList assign body .ready none) (.loop R) ⟨w.heap.size,0,0,0⟩ rfl
  (fun U' he hU=>⟨_,R,hU,h.base.size,by show(w.heap.push _)[w.heap.size]? =_;simp,h1,h2,by rw [h4],h5,h6,by rw [h3];exact hA.tmps.mono he⟩) (by simp [fS.olds])
 have hL:=Rn.iV U Sz.n ⟨w.heap.size,0,0,0⟩;simp only [mV]at hk
 have hargs:gO (U.put Sz.n ⟨w.heap.size,0,0,0⟩) (first++[.func (.yield Sz.n) #[] #[]]++captured) (first'.toList++[.func (.yield w.heap.size) #[] #[]]++jC.toList):=
  ((hf.mono s1.ext).append (.cons (.yield hL) (.nil _))).append (hcap.mono s1.ext)
 obtain⟨he,hcall⟩:=hc g _ _ _ _ _ _ hk r1 hargs;have e1:(⟨first'.toList++[.func (.yield w.heap.size) #[] #[]]++jC.toList⟩:Array Value)=(first'++ #[.func (.yield w.heap.size) #[] #[]])++jC:=by apply Array.toList_inj.1;simp
 rw [e1]at he hcall;refine⟨he,CallsIn.mono (IL hcall) ?_⟩
 rintro e w' ⟨v',rfl,U',v,S',hk,hv,r2,s2⟩
 obtain⟨o,ho,hk⟩:=kQ hk;have hL2:U' Sz.n=some ⟨w.heap.size,0,0,0⟩:=s2.ext _ _ hL;split at hk
 ·rename_i tm ps as bo st pe
  obtain⟨r,hb,hr,hst,hpe,hps,has,Su,htm⟩:=qL r2 ho hL2
  have hkk:st≠ .busy/\uG S' Sz.n (.loop tm ps as bo .exhausted pe) (fun Sz=>match(generalizing:=false) pe with
   | none=>K .normal A Sz
   | some .ret=>K .ret A Sz
   | some (.exit id)=>K (.exit id) A Sz
   | _=>false)=true:=by
   split at hk
   ·cases hk
   ·rename_i hnb;exact⟨fun e=>hnb e,hk⟩
  obtain⟨hnb,hk⟩:=hkk;rw [jX]at hk;obtain⟨r3,s3,hset⟩:=IM r2 ho hL2 hb hr hps has Su htm .exhausted pe
  have hend:(Instr.endLoop w.heap.size).run E.P w'= .ok pe (w'.putObj w.heap.size (.loop {r with state:= .exhausted,pending:=pe})):=by
   have aFI:r.state≠ .busy:=by rw [hst];exact hnb
   simp [Instr.endLoop,run_getLoop hr,aFI,hpe,hset]
  have aCW:=(s1.trans s2).trans s3
  have hsr:SR E.P w0 U' A a (S'.set Sz.n (.loop tm ps as bo .exhausted pe)) (w'.putObj w.heap.size (.loop {r with state:= .exhausted,pending:=pe})):=
   ⟨hA.mono (s1.ext.trans s2.ext),r3,hD.mono (s1.ext.trans s2.ext)⟩
  refine⟨pe,_,hend,?_⟩;split at hk
  ·exact hQ _ _ _ ⟨U',.normal,A,_,rfl,hk,hsr,aCW⟩
  ·exact wpIn_ret (hQ _ _ _ ⟨U',.ret,A,_,rfl,hk,hsr,aCW⟩)
  ·exact wpIn_exit (hQ _ _ _ ⟨U',.exit _,A,_,rfl,hk,hsr,aCW⟩)
  ·cases hk
 ·cases hk
theorem Cm (hc:iD E.P w0 E.call){f:Operand}{params:Array Tmp}{assign body:Code}{U:Rn}{A:bG}{a:Act}{Sz:St}{w:World}{K:OE}{r ro:Option Nat}{Q:Exit->Act->World->Prop}
 (hk:XL E r f params assign body A Sz K=true) (hs:SR E.P w0 U A a Sz w) (hro:RoR U r ro) (hQ:∀e a' w',Arr E.P w0 U w K e a' w'->Q e a' w'):(Code.rangeFunc f params assign body).wpIn (OB ro) 0 E.P Q a w:=by
 unfold XL at hk;obtain⟨fv,hk,hfv⟩:=aO hs.rel hs.act hk;split at hk
 ·rename_i g first captured
  refine wpIn_rangeFunc fun fn _=>?_;generalize hfe:a.eval f=fv' at hfv;cases hfv with
  | flat hfl=>simp [cD]at hfl
  | func h1 h2 h3 h4=>
   rename_i first' jC;have hf1:gO U first.toList first'.toList:=⟨by simpa using h1,h3⟩
   have hf2:gO U captured.toList jC.toList:=⟨by simpa using h2,h4⟩
   have hres:∀(l:Nat) (w:World),(resolve a.eval (rangeCall f l) 0).run E.P w= .ok {target:= .fn (.func g) jC,args:=first'++ #[.func (.yield l) #[] #[]]} w:=by
    intro l w;simp [resolve,hfe,Deferred.ofValue];rfl
   rcases hro with ⟨rfl,rfl⟩ | ⟨l,L,rfl,hL,rfl⟩
   ·simp only [gE]at hk
    obtain⟨r1,s1⟩:=hs.rel.new .defers (.deferred (some [])) ⟨w.heap.size,0,0,0⟩ rfl
     (fun U' he hU=>⟨_,hU,hs.rel.base.size,by show(w.heap.push _)[w.heap.size]? =_;simp⟩) (by simp [fS.olds])
    have hLd:=Rn.iV U Sz.n ⟨w.heap.size,0,0,0⟩
    have hD:En (U.put Sz.n ⟨w.heap.size,0,0,0⟩) (Sz.n::A.marks) ({target:= .collected w.heap.size,args:= #[]}::a.defers):=by
     refine⟨by simp [hs.marks.1],fun k d hk=>?_⟩;cases k with
     | zero=>simp at hk;subst hk;exact⟨_,hLd,rfl⟩
     | succ k=>simp at hk;obtain⟨L,g1,g2⟩:=hs.marks.2 k d hk;exact⟨L,s1.ext _ _ g1,by simpa using g2⟩
    have hcore:=XY (Q:=Q) (a:={a with defers:={target:= .collected w.heap.size,args:= #[]}::a.defers}) (A:=⟨A.tmps,Sz.n::A.marks,A.g⟩) (ro:=none) hc r1 ⟨hs.act.tmps.mono s1.ext,hs.act.g⟩ hD
     (R:={state:= .ready,pending:=none,fn,tmps:=a.tmps,params,assign,body,defers:=w.heap.size}) rfl rfl rfl rfl rfl rfl (hf1.mono s1.ext) (hf2.mono s1.ext) (K:=K) (g:=g) (by rw [gE];exact hk)
     (fun e a' w' h=>hQ e a' w' (h.trans s1))
    refine⟨(w.alloc (.deferred (some []))).heap.size,[{target:= .collected w.heap.size,args:= #[]}],(w.alloc (.deferred (some []))).alloc (.loop {state:= .ready,pending:=none,fn,tmps:=a.tmps,params,assign,body,defers:=w.heap.size}),_,
     (w.alloc (.deferred (some []))).alloc (.loop {state:= .ready,pending:=none,fn,tmps:=a.tmps,params,assign,body,defers:=w.heap.size}),g,_,_,?_,hres _ _,fun _ _=>trivial,hcore.1 _,(fun hd=>nomatch hd),hcore.2⟩
    simp only [Instr.enterLoop];rfl
   ·obtain⟨o,ho,hk⟩:=kQ hk
    split at hk
    ·rename_i tm ps as bo st pe
     obtain⟨r,hb,hr,_⟩:=qL hs.rel ho hL
     have hcore:=XY (Q:=Q) (a:=a) (A:=A) (ro:=some L.b) hc hs.rel hs.act hs.marks
      (R:={state:= .ready,pending:=none,fn,tmps:=a.tmps,params,assign,body,defers:=r.defers}) rfl rfl rfl rfl rfl rfl hf1 hf2 (K:=K) (g:=g) hk hQ
     refine⟨w.heap.size,[],w.alloc (.loop {state:= .ready,pending:=none,fn,tmps:=a.tmps,params,assign,body,defers:=r.defers}),_,w.alloc (.loop {state:= .ready,pending:=none,fn,tmps:=a.tmps,params,assign,body,defers:=r.defers}),g,_,_,?_,hres _ _,
      fun _ _=>trivial,hcore.1 _,(fun hd=>nomatch hd),hcore.2⟩
     simp only [Instr.enterLoop,OB,Sem.run_bind,run_getLoop hr,Ib,Result.andThen_ok,Sem.run_pure]
    ·cases hk
 ·cases hk
end walk
section walk
variable{E:Env}{w0:World}
theorem OQ (hc:iD E.P w0 E.call) (hr:lV E.P w0 E.round){dr:DrT} (hd:Xd E w0 dr):∀(c:Code) {U:Rn} {A:bG} {a:Act} {Sz:St} {w:World} {K:OE} {r ro:Option Nat} {Q:Exit->Act->World->Prop},
 qJ E dr r c A Sz K=true->SR E.P w0 U A a Sz w->RoR U r ro->(∀e a' w',Arr E.P w0 U w K e a' w'->Q e a' w')->c.wpIn (OB ro) 0 E.P Q a w:=by
 intro c;induction c with
 | skip=>intro U A a Sz w K r ro Q hk hs hro hQ;exact wpIn_skip (hQ _ _ _ ⟨U,.normal,A,Sz,rfl,hk,hs,.refl U w⟩)
 | label l=>intro U A a Sz w K r ro Q hk hs hro hQ;exact wpIn_label (hQ _ _ _ ⟨U,.normal,A,Sz,rfl,hk,hs,.refl U w⟩)
 | ret=>intro U A a Sz w K r ro Q hk hs hro hQ;exact wpIn_ret (hQ _ _ _ ⟨U,.ret,A,Sz,rfl,hk,hs,.refl U w⟩)
 | exit id=>intro U A a Sz w K r ro Q hk hs hro hQ;exact wpIn_exit (hQ _ _ _ ⟨U,.exit id,A,Sz,rfl,hk,hs,.refl U w⟩)
 | goto l=>intro U A a Sz w K r ro Q hk hs hro hQ;cases hk
 | refuse l=>intro U A a Sz w K r ro Q hk hs hro hQ;cases hk
 | region id ops draw=>
  intro U A a Sz w K r ro Q hk hs hro hQ
  have hgo:∀a' w',Next E.P w0 U w (fun A Sz=>K .normal A Sz) a' w'->Q .normal a' w':=by
   rintro a' w' ⟨U',A',S',h1,h2,h3⟩
   exact hQ _ _ _ ⟨U',.normal,A',S',rfl,h1,h2,h3⟩
  cases draw with
  | true=>exact hd ops A Sz _ U a w ro id Q hk hs hgo
  | false=>exact wpIn_region_list (aBa hc hr ops.toList hk hs hgo)
 | seq x y ihx ihy=>
  intro U A a Sz w K r ro Q hk hs hro hQ;have hk:qJ E dr r x A Sz (fun e A Sz=>match e with | .normal=>qJ E dr r y A Sz K | e=>K e A Sz)=true:=hk;refine wpIn_seq (ihx hk hs hro ?_)
  rintro e a' w' ⟨U',ae,A',S',rfl,h1,h2,h3⟩
  cases ae with
  | normal=>exact ihy h1 h2 (hro.mono h3.ext) fun e a w h=>hQ e a w (h.trans h3)
  | exit id=>exact hQ _ _ _ ⟨U',.exit id,A',S',rfl,h1,h2,h3⟩
  | ret=>exact hQ _ _ _ ⟨U',.ret,A',S',rfl,h1,h2,h3⟩
 | cond c x y ihx ihy=>
  intro U A a Sz w K r ro Q hk hs hro hQ;have hk:rK A c (fun v=>match v with | .bool b=>cR b (qJ E dr r x A Sz K) (qJ E dr r y A Sz K) | _=>false)=true:=hk;obtain⟨v,hk,hv⟩:=aO hs.rel hs.act hk;split at hk
  ·rename_i b
   have e:=hv.of_flat rfl;cases b with
   | true=>exact wpIn_cond_true e (ihx hk hs hro hQ)
   | false=>exact wpIn_cond_false e (ihy hk hs hro hQ)
  ·cases hk
 | block id x ih=>
  intro U A a Sz w K r ro Q hk hs hro hQ
  have hk:qJ E dr r x A Sz (fun e A Sz=>match e with
   | .exit i=>match Nat.beq i id with | true=>K .normal A Sz | false=>K (.exit i) A Sz
   | e=>K e A Sz)=true:=hk
  refine wpIn_block (ih hk hs hro ?_)
  rintro e a' w' ⟨U',ae,A',S',rfl,h1,h2,h3⟩
  cases ae with
  | normal=>exact hQ _ _ _ ⟨U',.normal,A',S',rfl,h1,h2,h3⟩
  | ret=>exact hQ _ _ _ ⟨U',.ret,A',S',rfl,h1,h2,h3⟩
  | exit i=>
   simp only at h1;show Exit.inBlock id Q (.exit i) a' w';split at h1
   ·rename_i hi
    have hi:=Nat.eq_of_beq_eq_true hi;subst hi;simp only [Exit.inBlock,if_true];exact hQ _ _ _ ⟨U',.normal,A',S',rfl,h1,h2,h3⟩
   ·rename_i hi
    have hi:=Nat.ne_of_beq_eq_false hi;simp only [Exit.inBlock,hi,if_false];exact hQ _ _ _ ⟨U',.exit i,A',S',rfl,h1,h2,h3⟩
 | scope x ih=>
  intro U A a Sz w K r ro Q hk hs hro hQ;have hk:qJ E dr r x A Sz K=true:=hk;refine XX (ih hk hs hro ?_)
  rintro e a' w' ⟨U',ae,A',S',rfl,h1,h2,h3⟩
  cases ae with
  | normal=>exact hQ _ _ _ ⟨U',.normal,A',S',rfl,h1,h2,h3⟩
  | exit id=>exact hQ _ _ _ ⟨U',.exit id,A',S',rfl,h1,h2,h3⟩
  | ret=>exact hQ _ _ _ ⟨U',.ret,A',S',rfl,h1,h2,h3⟩
 | rangeFunc f ps as bo _ _=>
  intro U A a Sz w K r ro Q hk hs hro hQ;exact Cm hc hk hs hro hQ
 | loop x ih=>
  intro U A a Sz w K r ro Q hk hs hro hQ;have hk:Xe (qJ E dr r x) K E.most A Sz=true:=hk
  let I:Nat->Act->World->Prop:=fun m a' w'=>Next E.P w0 U w (Xe (qJ E dr r x) K m) a' w'
  refine wpIn_loop (I:=fun a w=>∃m,I m a w) (μ:=fun a w=>least fun m=>I m a w) ⟨E.most,U,A,Sz,hk,hs,.refl U w⟩ ?_
  rintro a1 w1 ⟨m0,hm0⟩
  obtain⟨hm,_⟩:=FR (p:=fun m=>I m a1 w1) hm0;generalize hgen:least (fun m=>I m a1 w1)=m at hm;obtain⟨U1,A1,S1z,h1,h2,h3⟩:=hm;cases m with
  | zero=>cases h1
  | succ m=>
   have h1:qJ E dr r x A1 S1z (fun e A Sz=>match e with | .normal=>Xe (qJ E dr r x) K m A Sz | e=>K e A Sz)=true:=h1;refine ih h1 h2 (hro.mono h3.ext) ?_
   rintro e a' w' ⟨U',ae,A',S',rfl,g1,g2,g3⟩
   cases ae with
   | normal=>
    have hI:I m a' w':=⟨U',A',S',g1,g2,h3.trans g3⟩;refine⟨⟨m,hI⟩,?_⟩;have:=(FR (p:=fun m=>I m a' w') hI).2;exact Nat.lt_succ_of_le this
   | exit id=>exact hQ _ _ _ ⟨U',.exit id,A',S',rfl,g1,g2,h3.trans g3⟩
   | ret=>exact hQ _ _ _ ⟨U',.ret,A',S',rfl,g1,g2,h3.trans g3⟩
end walk
end Go.Am
