/- AM, an abstract machine for the model's code: its state, its operations, its evaluator: plain definitions, no theorem about any program. -/
import Derived.OrdersIn
import Derived.RangeFuncIn
import Derived.RangeFuncLeaves
import Derived.Below
import GoSem.Dispatch
import Derived.RangeFuncRecord
import Derived.Laws.StructEq
import Derived.Laws.MakeOwn
import Derived.MapKept
import Derived.Laws.IdiomStrings
import Derived.Laws.BytesArg
import Derived.Maps.RangeRun
import Derived.Laws.AppendOwn

namespace Go.Am
abbrev zI:Value:= .int .i64 (.ofNat 0)
abbrev zS:Value:= .string ⟨⟨[]⟩⟩
abbrev zL:Value:= .slice none 0 0
abbrev zF:Value:= .bool false
inductive Tr (α:Type)where
 | leaf
 | node (v:Option α) (l r:Tr α)
namespace Tr
variable{α:Type}
def get:Tr α->Nat->Option α
 | leaf,_=>none
 | node v l r,n=>if n=0 then v else if n%2=1 then l.get (n / 2)else r.get (n / 2-1)
def yF (x:α):Nat->Tr α->Nat->Tr α
 | 0,t,_=>t
 | f+1,leaf,n=>if n=0 then node (some x) leaf leaf else if n%2=1 then node none (yF x f leaf (n / 2)) leaf else node none leaf (yF x f leaf (n / 2-1))
 | f+1,node v l r,n=>if n=0 then node (some x) l r else if n%2=1 then node v (yF x f l (n / 2)) r else node v l (yF x f r (n / 2-1))
def put (t:Tr α) (n:Nat) (x:α):Tr α:=yF x (n+1) t n
end Tr
section comb
variable{α:Type}{β:Type}
noncomputable def lX (n:Nat) (z:β) (s:Nat->β):β:=Nat.rec (motive:=fun _=>β) z (fun p _=>s p) n
noncomputable def dW (b:Bool) (t f:β):β:=Bool.rec (motive:=fun _=>β) f t b
noncomputable def aFB (o:Option α) (z:β) (s:α->β):β:=Option.rec (motive:=fun _=>β) z s o
noncomputable def aCp (n:Int) (z:Nat->β) (s:Nat->β):β:=Int.rec (motive:=fun _=>β) z s n
noncomputable def SQ (l:List α) (z:β) (s:α->List α->β):β:=List.rec (motive:=fun _=>β) z (fun a t _=>s a t) l
noncomputable def FG (z:β) (s:Nat->β->β) (n:Nat):β:=Nat.rec (motive:=fun _=>β) z s n
noncomputable def fD (z:β) (s:α->List α->β->β) (l:List α):β:=List.rec (motive:=fun _=>β) z s l
noncomputable def aFC (z:β) (s:Option α->Tr α->Tr α->β->β->β) (t:Tr α):β:=Tr.rec (motive:=fun _=>β) z s t
noncomputable def tcase (t:Tr α) (z:β) (s:Option α->Tr α->Tr α->β):β:=Tr.rec (motive:=fun _=>β) z (fun v l r _ _=>s v l r) t
noncomputable def aGR (skip:β) (region:Array Oper->Bool->β) (seq:β->β->β) (cond:Operand->β->β->β) (block:Nat->β->β) (loop scope:β->β)
 (range:Operand->Array Tmp->Code->Code->β) (exit:Nat->β) (label ret bad:β) (c:Code):β:=
 Code.rec (motive:=fun _=>β) skip (fun _ ops draw=>region ops draw) (fun _ _ a b=>seq a b) (fun c _ _ a b=>cond c a b) (fun id _ h=>block id h) (fun _ h=>loop h)
  (fun f ps a b _ _=>range f ps a b) exit (fun _ h=>scope h) (fun _=>label) (fun _=>bad) ret (fun _=>bad) c
end comb
noncomputable def oV{α:Type} (t:Tr α) (n:Nat) (k:α->Bool):Bool:=
 aFC (β:=Nat->Bool) (fun _=>false) (fun v _ _ gl gr n=>lX n (aFB v false k) fun p=>lX (Nat.mod p 2) (gl (Nat.div p 2)) fun _=>gr (Nat.div p 2)) t n
noncomputable def IP{α:Type} (x:α) (f:Nat):Tr α->Nat->(Tr α->Bool)->Bool:=
 FG (β:=Tr α->Nat->(Tr α->Bool)->Bool) (fun t _ k=>k t)
  (fun _ ih t n k=>tcase t
   (lX n (k (.node (some x) .leaf .leaf)) fun p=>lX (Nat.mod p 2) (ih .leaf (Nat.div p 2) fun c=>k (.node none c .leaf)) fun _=>ih .leaf (Nat.div p 2) fun c=>k (.node none .leaf c))
   (fun v l r=>lX n (k (.node (some x) l r)) fun p=>lX (Nat.mod p 2) (ih l (Nat.div p 2) fun c=>k (.node v c r)) fun _=>ih r (Nat.div p 2) fun c=>k (.node v l c))) f
noncomputable def cF (n:Nat) (k:Nat->Bool):Bool:=lX n (k 0) fun p=>k (Nat.succ p)
noncomputable def tH (n:Int) (k:Int->Bool):Bool:=aCp n (fun m=>cF m fun m=>k (.ofNat m)) (fun m=>cF m fun m=>k (.negSucc m))
noncomputable def KC (b:Bool) (k:Bool->Bool):Bool:=dW b (k true) (k false)
noncomputable def IQ{α:Type} (l:List α) (i:Nat) (k:α->Bool):Bool:=
 fD (β:=Nat->Bool) (fun _=>false) (fun a _ ih i=>lX i (k a) fun p=>ih p) l i
noncomputable def Lt{α:Type} (v:α) (l:List α) (i:Nat) (k:List α->Bool):Bool:=
 fD (β:=Nat->(List α->Bool)->Bool) (fun _ k=>k []) (fun a t ih i k=>lX i (k (v::t)) fun p=>ih p fun t'=>k (a::t')) l i k
noncomputable def aAl{α:Type} (l:List α) (k:List α->Bool):Bool:=
 fD (β:=(List α->Bool)->Bool) (fun k=>k []) (fun a _ ih k=>ih fun t=>k (a::t)) l k
noncomputable def uM{α:Type} (l m:List α) (k:List α->Bool):Bool:=
 fD (β:=(List α->Bool)->Bool) (fun k=>k m) (fun a _ ih k=>ih fun t=>k (a::t)) l k
noncomputable def FP{α:Type} (n:Nat) (l:List α) (k:List α->Bool):Bool:=
 FG (β:=List α->(List α->Bool)->Bool) (fun _ k=>k []) (fun _ ih l k=>SQ l false fun a t=>ih t fun t'=>k (a::t')) n l k
noncomputable def AY{α:Type} (n:Nat) (l:List α) (k:List α->Bool):Bool:=
 FG (β:=List α->Bool) (fun l=>k l) (fun _ ih l=>SQ l false fun _ t=>ih t) n l
noncomputable def Dp{α:Type} (new:List α) (l:List α) (k:List α->Bool):Bool:=
 fD (β:=List α->(List α->Bool)->Bool) (fun l k=>k l) (fun a _ ih l k=>SQ l false fun _ t=>ih t fun t'=>k (a::t')) new l k
noncomputable def oE{α:Type} (off:Nat) (new l:List α) (k:List α->Bool):Bool:=
 FG (β:=List α->(List α->Bool)->Bool) (fun l k=>Dp new l k) (fun _ ih l k=>SQ l false fun a t=>ih t fun t'=>k (a::t')) off l k
noncomputable def vX{α:Type} (l:List α) (k:Nat->Bool):Bool:=
 fD (β:=Nat->Bool) (fun n=>k n) (fun _ _ ih n=>cF (Nat.succ n) ih) l 0
noncomputable def Dq{α:Type} (z:List α) (n:Nat) (k:List α->Bool):Bool:=
 FG (β:=List α->Bool) (fun acc=>k acc) (fun _ ih acc=>uM z acc ih) n []
inductive CK where
 | exact
 | grown (olds:List Nat)
 | stale
 | ro
 | rs
structure Tm where
 t:Tr Value
 n:Nat
noncomputable def JE (T:Tm) (i:Nat) (k:Value->Bool):Bool:=oV T.t i k
noncomputable def qH (v:Value) (T:Tm) (i:Nat) (k:Tm->Bool):Bool:=
 match Nat.blt i T.n with
 | true=>IP v (Nat.succ i) T.t i fun t=>k ⟨t,T.n⟩
 | false=>false
noncomputable def Tc (n:Nat) (args:List Value) (k:Tm->Bool):Bool:=
 fD (β:=Nat->Tm->Bool) (fun _ T=>k T) (fun a _ ih i T=>qH a T i fun T=>cF (Nat.succ i) fun i=>ih i T) args 0 ⟨.leaf,n⟩
inductive gF where
 | dead
 | cells (vs:List Value) (elem:TypeId) (k:CK)
 | map (es:List MapEntry) (clock:Nat)
 | loop (tmps:Tm) (params:List Tmp) (assign body:Code) (state:LoopState) (pending:Option Code)
 | defers
 | iter (m:Option Nat) (since:Nat) (seen:List Nat) (last:Nat)
structure St where
 h:Tr gF
 n:Nat
inductive rD where
 | normal
 | exit (id:Nat)
 | ret
structure aX where
 tmps:Tm
 marks:List Nat
 g:Nat
abbrev VK:=Value->St->Bool
abbrev Lu:=FuncId->List Value->St->VK->Bool
def bH:Value->Bool
 | .bool _ | .int .. | .string _ | .nilFunc | .nilIface | .pointer none | .slice none _ _ | .map none=>true
 | _=>false
def oneCell:Value->Bool
 | .agg _ | .tuple _=>false
 | _=>true
noncomputable def allB{α:Type} (f:α->Bool) (l:List α):Bool:=fD (β:=Bool) true (fun a _ ih=>dW (f a) ih false) l
def lP:Value->Bool
 | .agg cs=>cs.toList.all bH
 | v=>bH v
noncomputable def pT (A:aX) (x:Operand) (k:Value->Bool):Bool:=
 match x with
 | .tmp t=>JE A.tmps t k
 | .const v=>match lP v with | true=>k v | false=>false
 | .global g=>match Nat.blt g A.g with | true=>k (.pointer (some ⟨g,0,none⟩)) | false=>false
 | .func f=>k (.func (.func f) #[] #[])
noncomputable def IR (A:aX) (xs:List Operand) (k:List Value->Bool):Bool:=
 fD (β:=(List Value->Bool)->Bool) (fun k=>k []) (fun x _ ih k=>pT A x fun v=>ih fun vs=>k (v::vs)) xs k
noncomputable def jO (A:aX) (d:Option Tmp) (v:Value) (k:aX->Bool):Bool:=
 match d with
 | some d=>qH v A.tmps d fun ts=>k ⟨ts,A.marks,A.g⟩
 | none=>k A
noncomputable def qW (S:St) (o:gF) (k:Nat->St->Bool):Bool:=
 IP o (Nat.succ S.n) S.h S.n fun h=>cF (Nat.succ S.n) fun n=>k S.n ⟨h,n⟩
noncomputable def pV (S:St) (i:Nat) (o:gF) (k:St->Bool):Bool:=IP o (Nat.succ i) S.h i fun h=>k ⟨h,S.n⟩
noncomputable def tI (S:St) (i:Nat) (k:List Value->TypeId->CK->Bool):Bool:=
 oV S.h i fun o=>match o with | .cells vs e c=>k vs e c | _=>false
noncomputable def AZ (S:St) (i off n:Nat) (k:List Value->Bool):Bool:=tI S i fun vs _ _=>AY off vs fun l=>FP n l k
noncomputable def XQ (l:List Nat) (h:Tr gF) (k:Tr gF->Bool):Bool:=
 fD (β:=Tr gF->(Tr gF->Bool)->Bool) (fun h k=>k h) (fun i _ ih h k=>IP .dead (Nat.succ i) h i fun h=>ih h k) l h k
def RX:Int->Int->Bool
 | .ofNat a,.ofNat b=>Nat.beq a b
 | .negSucc a,.negSucc b=>Nat.beq a b
 | _,_=>false
def vA:IntKind->IntKind->Bool
 | .i8,.i8 | .i16,.i16 | .i32,.i32 | .i64,.i64 | .u8,.u8 | .u16,.u16 | .u32,.u32 | .u64,.u64=>true
 | _,_=>false
noncomputable def asIs (new:List Value):List Value->Bool:=
 fD (β:=List Value->Bool) (fun _=>true) (fun a _ ih l=>SQ l false fun b t=>match a,b with
  | .int j x,.int k y=>match vA j k with
   | true=>match RX x y with | true=>ih t | false=>false
   | false=>false
  | _,_=>false) new
noncomputable def oW (S:St) (i off:Nat) (new:List Value) (k:St->Bool):Bool:=
 tI S i fun vs e c=>
  match c with
  | .exact=>oE off new vs fun vs=>pV S i (.cells vs e .exact) k
  | .grown olds=>AY off vs fun l=>match asIs new l with
   | true=>k S
   | false=>oE off new vs fun vs=>XQ olds S.h fun h=>IP (.cells vs e (.grown [])) (Nat.succ i) h i fun h=>k ⟨h,S.n⟩
  | .rs=>AY off vs fun l=>match asIs new l with | true=>k S | false=>false
  | _=>false
def WJ:Int->Int->Bool
 | .ofNat a,.ofNat b=>Nat.blt a b
 | .ofNat _,.negSucc _=>false
 | .negSucc _,.ofNat _=>true
 | .negSucc a,.negSucc b=>Nat.blt b a
def kC (k:IntKind) (n:Int):Int:=
 match k,n with
 | .i64,.ofNat m=>match Nat.blt m 9223372036854775808 with | true=> .ofNat m | false=>k.wrap n
 | .i64,.negSucc m=>match Nat.blt m 9223372036854775808 with | true=> .negSucc m | false=>k.wrap n
 | .u64,.ofNat m=>match Nat.blt m 18446744073709551616 with | true=> .ofNat m | false=>k.wrap n
 | .u8,.ofNat m=>match Nat.blt m 256 with | true=> .ofNat m | false=>k.wrap n
 | k,n=>k.wrap n
noncomputable def DE (k:IntKind) (n:Int) (K:Value->Bool):Bool:=tH (kC k n) fun n=>K (.int k n)
noncomputable def lY (b:Bool) (K:Value->Bool):Bool:=KC b fun b=>K (.bool b)
noncomputable def DF (op:BinOp) (k:IntKind) (x y:Int) (K:Value->Bool):Bool:=
 match op with
 | .add=>DE k (Int.add x y) K
 | .sub=>DE k (Int.sub x y) K
 | .mul=>DE k (Int.mul x y) K
 | .quo=>match RX y 0 with | true=>false | false=>DE k (Int.tdiv x y) K
 | .rem=>match RX y 0 with | true=>false | false=>tH (Int.tmod x y) fun n=>K (.int k n)
 | .and=>tH (k.wrap (BitVec.ofInt k.bits x &&& BitVec.ofInt k.bits y).toNat) fun n=>K (.int k n)
 | .or=>tH (k.wrap (BitVec.ofInt k.bits x ||| BitVec.ofInt k.bits y).toNat) fun n=>K (.int k n)
 | .xor=>tH (k.wrap (BitVec.ofInt k.bits x ^^^ BitVec.ofInt k.bits y).toNat) fun n=>K (.int k n)
 | .andNot=>tH (k.wrap (BitVec.ofInt k.bits x &&& ~~~ BitVec.ofInt k.bits y).toNat) fun n=>K (.int k n)
 | .eql=>lY (RX x y) K
 | .neq=>lY (!RX x y) K
 | .lss=>lY (WJ x y) K
 | .leq=>lY (!WJ y x) K
 | .gtr=>lY (WJ y x) K
 | .geq=>lY (!WJ x y) K
 | _=>false
noncomputable def KD (op:BinOp) (k:IntKind) (x y:Int) (K:Value->Bool):Bool:=
 match WJ y 0 with
 | true=>false
 | false=>
  match op with
  | .shl=>DE k (x*2 ^ (min y.toNat k.bits)) K
  | .shr=>tH (x.fdiv (2 ^ (min y.toNat k.bits))) fun n=>K (.int k n)
  | _=>false
noncomputable def RD (a b:List UInt8):Bool:=
 fD (β:=List UInt8->Bool) (fun b=>match b with | []=>true | _=>false)
  (fun x _ ih b=>match b with | []=>false | y::b=>match Nat.beq x.toNat y.toNat with | true=>ih b | false=>false) a b
noncomputable def Oq (a b:List UInt8):Bool:=
 fD (β:=List UInt8->Bool) (fun b=>match b with | []=>false | _=>true)
  (fun x _ ih b=>match b with | []=>false | y::b=>match Nat.blt x.toNat y.toNat with | true=>true | false=>match Nat.beq x.toNat y.toNat with | true=>ih b | false=>false) a b
noncomputable def ZE (op:BinOp) (a b:ByteArray) (K:Value->Bool):Bool:=
 match op with
 | .add=>vX a.data.toList fun n=>vX b.data.toList fun m=>match Nat.blt (n+m) 9223372036854775808 with
  | true=>uM a.data.toList b.data.toList fun l=>K (.string ⟨⟨l⟩⟩)
  | false=>false
 | .eql=>lY (RD a.data.toList b.data.toList) K
 | .neq=>lY (!RD a.data.toList b.data.toList) K
 | .lss=>lY (Oq a.data.toList b.data.toList) K
 | .leq=>lY (Oq a.data.toList b.data.toList || RD a.data.toList b.data.toList) K
 | .gtr=>lY (!(Oq a.data.toList b.data.toList || RD a.data.toList b.data.toList)) K
 | .geq=>lY (!Oq a.data.toList b.data.toList) K
 | _=>false
section ops
variable (P:Program)
def qI (t:TypeId):Option Bool:=(P.underlying t).map fun | .struct _ | .array _ _=>true | _=>false
def bQ (t:TypeId):Option Nat:=(P.info? t).map (·.size)
def qC (t:TypeId):Option (List Value):=((P.info? t).bind (·.zero)).map (·.cells.toList)
noncomputable def CA (t:TypeId) (a:Value) (S:St) (K:VK):Bool:=
 match a with
 | .pointer (some ⟨i,o,none⟩)=>
  match qI P t with
  | some false=>tI S i fun vs _ _=>IQ vs o fun v=>K v S
  | some true=>match bQ P t with
   | some n=>AZ S i o n fun l=>K (.agg ⟨l⟩) S
   | none=>false
  | none=>false
 | _=>false
noncomputable def lZ (v:Value) (k:List Value->Bool):Bool:=
 match v with
 | .agg cs=>match allB oneCell cs.toList with | true=>k cs.toList | false=>false
 | .tuple _=>false
 | v=>k [v]
noncomputable def KE (t:TypeId) (a x:Value) (S:St) (k:St->Bool):Bool:=
 match a with
 | .pointer (some ⟨i,o,none⟩)=>
  match bQ P t with
  | some n=>lZ x fun cs=>vX cs fun m=>match Nat.beq m n with
   | true=>oW S i o cs k
   | false=>false
  | none=>false
 | _=>false
noncomputable def Or (d:Nat) (x:Option Value) (k:Nat->Bool):Bool:=
 match x with
 | none=>k d
 | some (.int _ (.ofNat n))=>k n
 | _=>false
noncomputable def DG (len cap:Nat) (lo hi mx:Option Value) (k:Nat->Nat->Nat->Bool):Bool:=
 Or cap mx fun m=>Or len hi fun h=>Or 0 lo fun l=>
  match Nat.ble l h,Nat.ble h m,Nat.ble m cap with
  | true,true,true=>k l h m
  | _,_,_=>false
def isSlice (t:TypeId):Option TypeId:=match P.underlying t with | some (.slice e)=>some e | _=>none
noncomputable def rG (t:TypeId) (x:Value) (lo hi mx:Option Value) (S:St) (K:Value->Bool):Bool:=
 match x with
 | .string s=>
  match P.underlying t,mx with
  | some .string,none=>vX s.data.toList fun n=>DG n n lo hi none fun l h _=>FP h s.data.toList fun a=>AY l a fun b=>K (.string ⟨⟨b⟩⟩)
  | _,_=>false
 | .slice none len cap=>
  match isSlice P t with
  | some elem=>match bQ P elem with
   | some _=>DG len cap lo hi mx fun l h m=>cF (h-l) fun n=>cF (m-l) fun c=>K (.slice none n c)
   | none=>false
  | none=>false
 | .slice (some ⟨i,o,sp⟩) len cap=>
  match isSlice P t with
  | some elem=>match bQ P elem with
   | some size=>DG len cap lo hi mx fun l h m=>cF (h-l) fun n=>cF (m-l) fun c=>cF (o+l*size) fun o'=>
    match sp,mx with
    | none,_=>match Nat.beq m l with | true=>K (.slice (some ⟨i,o,none⟩) n c) | false=>K (.slice (some ⟨i,o',none⟩) n c)
    | some 0,some _=>match Nat.beq m l with | true=>false | false=>K (.slice (some ⟨i,o',none⟩) n c)
    | some 0,none=>match Nat.beq m l with
     | true=>K (.slice (some ⟨i,0,some 1⟩) 0 0)
     | false=>tI S i fun _ e ck=>match ck,bQ P e with
      | .exact,_=>false
      | _,some q=>match Nat.beq q size with | true=>K (.slice (some ⟨i,o',some 0⟩) n c) | false=>false
      | _,none=>false
    | some _,_=>K (.slice (some ⟨i,0,some 1⟩) 0 0)
   | none=>false
  | none=>false
 | .pointer (some ⟨i,o,none⟩)=>
  match P.underlying t with
  | some (.array len elem)=>match bQ P elem with
   | some size=>DG len len lo hi mx fun l h m=>cF (h-l) fun n=>cF (m-l) fun c=>cF (o+l*size) fun o'=>
    match Nat.beq m l with | true=>K (.slice (some ⟨i,o,none⟩) n c) | false=>K (.slice (some ⟨i,o',none⟩) n c)
   | none=>false
  | _=>false
 | _=>false
noncomputable def vB (t:TypeId) (x ix:Value) (K:Value->Bool):Bool:=
 match ix with
 | .int _ (.ofNat i)=>
  match x with
  | .slice (some ⟨b,o,sp⟩) len _=>
   match sp with
   | some (_+1)=>false
   | _=>match isSlice P t with
    | some elem=>match bQ P elem,Nat.blt i len with
     | some size,true=>cF (o+i*size) fun o=>K (.pointer (some ⟨b,o,none⟩))
     | _,_=>false
    | none=>false
  | .pointer (some ⟨b,o,none⟩)=>
   match P.underlying t with
   | some (.array len elem)=>match bQ P elem,Nat.blt i len with
    | some size,true=>cF (o+i*size) fun o=>K (.pointer (some ⟨b,o,none⟩))
    | _,_=>false
   | _=>false
  | _=>false
 | _=>false
def tJ (s:TypeId) (f:Nat):Option Field:=match P.underlying s with | some (.struct fs)=>fs[f]? | _=>none
noncomputable def vC (s:TypeId) (x:Value) (f:Nat) (K:Value->Bool):Bool:=
 match x with
 | .pointer (some ⟨b,o,none⟩)=>
  match tJ P s f with
  | some fd=>match bQ P fd.type with
   | some (_+1)=>cF (o+fd.offset) fun o=>K (.pointer (some ⟨b,o,none⟩))
   | _=>false
  | none=>false
 | _=>false
noncomputable def XR (t:TypeId) (cs:List Value) (off:Nat) (K:Value->Bool):Bool:=
 match qI P t with
 | some false=>IQ cs off K
 | some true=>match bQ P t with
  | some n=>AY off cs fun l=>FP n l fun l=>K (.agg ⟨l⟩)
  | none=>false
 | none=>false
noncomputable def FQ (t:TypeId) (x:Value) (f:Nat) (K:Value->Bool):Bool:=
 match x with
 | .agg cs=>match tJ P t f with
  | some fd=>XR P fd.type cs.toList fd.offset K
  | none=>false
 | _=>false
noncomputable def OE (t:TypeId) (x ix:Value) (K:Value->Bool):Bool:=
 match ix with
 | .int _ (.ofNat i)=>
  match x with
  | .agg cs=>match P.underlying t with
   | some (.array len elem)=>match bQ P elem,Nat.blt i len with
    | some size,true=>XR P elem cs.toList (i*size) K
    | _,_=>false
   | _=>false
  | .string s=>match P.underlying t with
   | some .string=>IQ s.data.toList i fun b=>cF b.toNat fun n=>K (.int .u8 (.ofNat n))
   | _=>false
  | _=>false
 | _=>false
noncomputable def JF (place:Nat->Option (Nat×Nat)) (parts:List (Nat×Value)) (cells:List Value) (k:List Value->Bool):Bool:=
 fD (β:=List Value->Bool) (fun cs=>k cs)
  (fun p _ ih cs=>match place p.1 with
   | some (off,size)=>lZ p.2 fun new=>vX new fun m=>match Nat.beq m size with
    | true=>oE off new cs ih
    | false=>false
   | none=>false) parts cells
noncomputable def xB (A:aX) (parts:List (Nat×Operand)) (k:List (Nat×Value)->Bool):Bool:=
 fD (β:=(List (Nat×Value)->Bool)->Bool) (fun k=>k []) (fun p _ ih k=>pT A p.2 fun v=>ih fun l=>k ((p.1,v)::l)) parts k
def placesOf (fields:List Field):Option (List (Nat×Nat)):=fields.mapM fun f=>(bQ P f.type).map fun s=>(f.offset,s)
noncomputable def SS (A:aX) (t:TypeId) (parts:List (Nat×Operand)) (K:Value->Bool):Bool:=
 match qC P t,P.underlying t with
 | some zero,some (.struct fields)=>match placesOf P fields.toList with
  | some pl=>match allB bH zero with
   | true=>xB A parts fun ps=>JF (pl[·]?) ps zero fun cs=>K (.agg ⟨cs⟩)
   | false=>false
  | none=>false
 | some zero,some (.array _ elem)=>match bQ P elem with
  | some size=>match allB bH zero with
   | true=>xB A parts fun ps=>JF (fun i=>some (i*size,size)) ps zero fun cs=>K (.agg ⟨cs⟩)
   | false=>false
  | none=>false
 | _,_=>false
noncomputable def sV (A:aX) (t:TypeId) (len:Nat) (parts:List (Nat×Operand)) (S:St) (K:VK):Bool:=
 match isSlice P t with
 | some elem=>match bQ P elem,qC P elem with
  | some (size+1),some zero=>match Nat.ble (len*(size+1)) 16777216,Nat.beq zero.length (size+1)with
   | true,true=>match allB bH zero with
    | true=>Dq zero len fun cs=>xB A parts fun ps=>JF (fun i=>some (i*(size+1),size+1)) ps cs fun cs=>
     qW S (.cells cs elem .exact) fun i S=>K (.slice (some ⟨i,0,none⟩) len len) S
    | false=>false
   | _,_=>false
  | _,_=>false
 | none=>false
noncomputable def FR (t:TypeId) (S:St) (K:VK):Bool:=
 match qC P t with
 | some zero=>match allB bH zero with
  | true=>aAl zero fun zero=>qW S (.cells zero t .exact) fun i S=>K (.pointer (some ⟨i,0,none⟩)) S
  | false=>false
 | none=>false
noncomputable def Dr (t:TypeId) (v:Value) (S:St) (K:VK):Bool:=
 lZ v fun cs=>qW S (.cells cs t .exact) fun i S=>K (.pointer (some ⟨i,0,none⟩)) S
noncomputable def qJ (t:TypeId) (len cap:Value) (S:St) (K:VK):Bool:=
 match len,cap with
 | .int _ (.ofNat l),.int _ (.ofNat c)=>
  match isSlice P t with
  | some elem=>match P.info? elem,qC P elem with
   | some info,some zero=>match Nat.ble l c,Nat.ble (info.bytes*c) 1099511627776,Nat.ble c 1099511627776,Nat.beq zero.length info.size,info.size with
    | true,true,true,true,_+1=>match allB bH zero with
     | true=>match Nat.ble c 65536 with
      | true=>Dq zero c fun cs=>qW S (.cells cs elem .exact) fun i S=>K (.slice (some ⟨i,0,none⟩) l c) S
      | false=>qW S .dead fun i S=>K (.slice (some ⟨i,0,none⟩) l c) S
     | false=>false
    | _,_,_,_,_=>false
   | _,_=>false
  | none=>false
 | _,_=>false
def nQ (t:TypeId):Bool:=match P.underlying t with | some (.int _) | some .string | some .bool=>true | _=>false
noncomputable def qD (t:TypeId) (a b:Value) (k:Bool->Bool):Bool:=
 match P.underlying t with
 | some (.int _)=>match a,b with
  | .int j x,.int l y=>match vA j l with | true=>KC (RX x y) k | false=>false
  | _,_=>false
 | some .string=>match a,b with
  | .string x,.string y=>KC (RD x.data.toList y.data.toList) k
  | _,_=>false
 | some .bool=>match a,b with
  | .bool x,.bool y=>KC (x==y) k
  | _,_=>false
 | _=>false
noncomputable def CB (fs:List Field) (a b:List Value) (k:Bool->Bool):Bool:=
 fD (β:=List Value->List Value->Bool) (fun _ _=>k true)
  (fun f _ ih a b=>SQ a false fun x a=>SQ b false fun y b=>qD P f.type x y fun e=>match e with | true=>ih a b | false=>k false) fs a b
def qK:Nat->List Field->Bool
 | _,[]=>true
 | i,f::fs=>f.name != "_" &&f.offset==i&&nQ P f.type&&qK (i+1) fs
def DH (t:TypeId):Option (List Field):=
 match P.underlying t with
 | some (.struct fs)=>if qK P 0 fs.toList&& !P.stoodInHeld t&& !P.eqGuardType P.depth t then some fs.toList else none
 | _=>none
noncomputable def nR (t:TypeId) (a b:Value) (k:Bool->Bool):Bool:=
 match a,b with
 | .agg xs,.agg ys=>match DH P t with
  | some fs=>CB P fs xs.toList ys.toList k
  | none=>false
 | .pointer (some _),.pointer none | .pointer none,.pointer (some _)=>match P.underlying t with | some (.pointer _)=>k false | _=>false
 | .pointer none,.pointer none=>match P.underlying t with | some (.pointer _)=>k true | _=>false
 | .slice (some _) _ _,.slice none _ _ | .slice none _ _,.slice (some _) _ _=>match P.underlying t with | some (.slice _)=>k false | _=>false
 | .slice none _ _,.slice none _ _=>match P.underlying t with | some (.slice _)=>k true | _=>false
 | .map (some _),.map none | .map none,.map (some _)=>match P.underlying t with | some (.map _ _)=>k false | _=>false
 | .map none,.map none=>match P.underlying t with | some (.map _ _)=>k true | _=>false
 | .func _ _ _,.nilFunc | .nilFunc,.func _ _ _=>match P.underlying t with | some (.func _ _ _)=>k false | _=>false
 | .nilFunc,.nilFunc=>match P.underlying t with | some (.func _ _ _)=>k true | _=>false
 | .iface _ _,.nilIface | .nilIface,.iface _ _=>match P.underlying t with | some (.interface _)=>k false | _=>false
 | .bool x,.bool y=>match P.underlying t with | some .bool=>KC (x==y) k | _=>false
 | _,_=>false
noncomputable def RE (op:BinOp) (t:TypeId) (a b:Value) (K:Value->Bool):Bool:=
 match a,b with
 | .int k x,.int k' y=>match op with
  | .shl | .shr=>KD op k x y K
  | _=>match vA k k' with | true=>DF op k x y K | false=>false
 | .string x,.string y=>ZE op x y K
 | a,b=>match op with
  | .eql=>nR P t a b fun e=>lY e K
  | .neq=>nR P t a b fun e=>lY (!e) K
  | _=>false
noncomputable def unK (op:UnOp) (a:Value) (K:Value->Bool):Bool:=
 match op,a with
 | .neg,.int k n=>DE k (Int.sub 0 n) K
 | .xor,.int k n=>tH (k.wrap (BitVec.ofInt k.bits (if k.signed then-1 else k.max) ^^^ BitVec.ofInt k.bits n).toNat) fun n=>K (.int k n)
 | .not,.bool b=>lY (!b) K
 | _,_=>false
noncomputable def Td (l:List UInt8) (k:List Value->Bool):Bool:=
 fD (β:=(List Value->Bool)->Bool) (fun k=>k []) (fun b _ ih k=>cF b.toNat fun n=>ih fun t=>k (.int .u8 (.ofNat n)::t)) l k
noncomputable def Ic (l:List Value) (k:List UInt8->Bool):Bool:=
 fD (β:=(List UInt8->Bool)->Bool) (fun k=>k []) (fun v _ ih k=>match v with | .int .u8 (.ofNat n)=>ih fun t=>k (UInt8.ofNat n::t) | _=>false) l k
noncomputable def PY (src dst:TypeId) (x:Value) (S:St) (K:VK):Bool:=
 match x with
 | .int _ n=>match P.underlying src,P.underlying dst with
  | some _,some (.int k)=>DE k n fun v=>K v S
  | _,_=>false
 | .string s=>match P.underlying src,P.underlying dst with
  | some .string,some .string=>K (.string s) S
  | some .string,some (.slice e)=>match P.underlying e,bQ P e with
   | some (.int .u8),some 1=>Td s.data.toList fun l=>vX l fun n=>qW S (.cells l e (.grown [])) fun i S=>K (.slice (some ⟨i,0,some 0⟩) n n) S
   | _,_=>false
  | _,_=>false
 | .slice none _ _=>match P.underlying src,P.underlying dst with
  | some (.slice e),some .string=>match P.underlying e with
   | some (.int .u8)=>K (.string ⟨⟨[]⟩⟩) S
   | _=>false
  | _,_=>false
 | .slice (some ⟨i,o,sp⟩) len _=>match P.underlying src,P.underlying dst,sp with
  | _,_,some (_+1)=>false
  | some (.slice e),some .string,_=>match P.underlying e with
   | some (.int .u8)=>AZ S i o len fun l=>Ic l fun l=>K (.string ⟨⟨l⟩⟩) S
   | _=>false
  | _,_,_=>false
 | _=>false
noncomputable def ZF (S:St) (m:Value) (k:Option Nat->List MapEntry->Nat->Bool):Bool:=
 match m with
 | .map none=>k none [] 0
 | .map (some r)=>oV S.h r fun o=>match o with | .map es c=>k (some r) es c | _=>false
 | _=>false
noncomputable def xC (t:TypeId) (a b:Value) (k:Bool->Bool):Bool:=
 match a,b with
 | .agg _,.agg _=>nR P t a b k
 | a,b=>qD P t a b k
noncomputable def PZ (t:TypeId) (key:Value) (es:List MapEntry) (k:Option (Nat×MapEntry)->Bool):Bool:=
 fD (β:=Nat->Bool) (fun _=>k none)
  (fun e _ ih i=>xC P t key e.key fun b=>match b with | true=>k (some (i,e)) | false=>cF (Nat.succ i) ih) es 0
def FB (t:TypeId) (key:Value):Bool:=
 match lP key with
 | true=>match nQ P t with
  | true=>true
  | false=>match DH P t,key with
   | some fs,.agg cs=>Nat.ble fs.length cs.toList.length
   | _,_=>false
 | false=>false
def FH (t:TypeId):Option (TypeId×TypeId):=match P.underlying t with | some (.map k e)=>some (k,e) | _=>none
def zeroV (t:TypeId):Option Value:=(P.info? t).bind (·.zero)
noncomputable def HN (t:TypeId) (x ix:Value) (ok:Bool) (S:St) (K:VK):Bool:=
 match FH P t with
 | some (kt,et)=>match FB P kt ix,zeroV P et with
  | true,some zero=>ZF S x fun _ es _=>PZ P kt ix es fun r=>
   match r with
   | some (_,e)=>match ok with | true=>K (.tuple ⟨[e.val,.bool true]⟩) S | false=>K e.val S
   | none=>match lP zero with
    | true=>match ok with | true=>K (.tuple ⟨[zero,.bool false]⟩) S | false=>K zero S
    | false=>false
  | _,_=>false
 | none=>false
noncomputable def vD (t:TypeId) (m key x:Value) (S:St) (k:St->Bool):Bool:=
 match FH P t with
 | some (kt,_)=>match FB P kt key with
  | true=>ZF S m fun r es c=>match r with
   | some r=>PZ P kt key es fun f=>
    match f with
    | some (i,e)=>match Instr.sameBits 10000 e.key key with
     | true=>Lt {e with val:=x} es i fun es=>pV S r (.map es c) k
     | false=>false
    | none=>uM es [{key:=key,val:=x,born:=c}] fun es=>cF (Nat.succ c) fun c=>pV S r (.map es c) k
   | none=>false
  | false=>false
 | none=>false
noncomputable def OF (t:TypeId) (m key:Value) (S:St) (K:VK):Bool:=
 match FH P t with
 | some (kt,et)=>match FB P kt key,zeroV P et with
  | true,some zero=>ZF S m fun r es c=>match r with
   | some r=>PZ P kt key es fun f=>
    match f with
    | some (_,e)=>match Instr.sameBits 10000 e.key key with
     | true=>K (.tuple ⟨[e.val,.int .i64 (.ofNat e.born)]⟩) S
     | false=>false
    | none=>match lP zero with
     | true=>uM es [{key:=key,val:=zero,born:=c}] fun es=>cF (Nat.succ c) fun c'=>pV S r (.map es c') fun S=>K (.tuple ⟨[zero,.int .i64 (.ofNat c)]⟩) S
     | false=>false
   | none=>false
  | _,_=>false
 | none=>false
noncomputable def Te (n:Nat) (es:List MapEntry) (k:Nat->MapEntry->Bool):Bool:=
 fD (β:=Nat->Bool) (fun _=>false) (fun e _ ih i=>match Nat.beq e.born n with | true=>k i e | false=>cF (Nat.succ i) ih) es 0
noncomputable def FS (m s x:Value) (S:St) (k:St->Bool):Bool:=
 match s with
 | .int _ (.ofNat n)=>ZF S m fun r es c=>match r with
  | some r=>Te n es fun i e=>Lt {e with val:=x} es i fun es=>pV S r (.map es c) k
  | none=>false
 | _=>false
noncomputable def Tf{α:Type} (l:List α) (i:Nat) (k:List α->Bool):Bool:=
 fD (β:=Nat->(List α->Bool)->Bool) (fun _ k=>k []) (fun a t ih i k=>lX i (k t) fun p=>ih p fun t'=>k (a::t')) l i k
noncomputable def ZG (argTypes:List TypeId) (m key:Value) (S:St) (k:St->Bool):Bool:=
 match argTypes with
 | t::_=>match FH P t with
  | some (kt,_)=>match FB P kt key with
   | true=>ZF S m fun r es c=>match r with
    | none=>k S
    | some r=>PZ P kt key es fun f=>match f with
     | some (i,_)=>Tf es i fun es=>pV S r (.map es c) k
     | none=>k S
   | false=>false
  | none=>false
 | []=>false
noncomputable def aAm (n:Nat) (l:List Nat):Bool:=fD (β:=Bool) false (fun m _ ih=>dW (Nat.beq m n) true ih) l
noncomputable def Ds (seen:List Nat) (es:List MapEntry) (k:List MapEntry->Bool):Bool:=
 fD (β:=(List MapEntry->Bool)->Bool) (fun k=>k []) (fun e _ ih k=>dW (aAm e.born seen) (ih k) (ih fun t=>k (e::t))) es k
noncomputable def ZH (t:TypeId) (x:Value) (S:St) (K:VK):Bool:=
 match FH P t with
 | some _=>match x with
  | .map none=>qW S (.iter none 0 [] 0) fun i S=>K (.pointer (some ⟨i,0,none⟩)) S
  | .map (some r)=>oV S.h r fun o=>match o with
   | .map _ c=>qW S (.iter (some r) c [] c) fun i S=>K (.pointer (some ⟨i,0,none⟩)) S
   | _=>false
  | _=>false
 | none=>false
noncomputable def Tg (it:Value) (S:St) (K:VK):Bool:=
 match it with
 | .pointer (some ⟨i,0,none⟩)=>oV S.h i fun o=>match o with
  | .iter none _ _ _=>K (.tuple ⟨[.bool false]⟩) S
  | .iter (some r) since seen last=>oV S.h r fun o=>match o with
   | .map es c=>match allB (fun e=>Nat.blt e.born since) es,Nat.ble since last with
    | true,true=>Ds seen es fun l=>match l with
     | []=>K (.tuple ⟨[.bool false]⟩) S
     | e::t=>allB (fun e=>uM seen [e.born] fun seen=>pV S i (.iter (some r) since seen c) fun S=>K (.tuple ⟨[.bool true,e.key,e.val]⟩) S) (e::t)
    | _,_=>false
   | _=>false
  | _=>false
 | _=>false
noncomputable def Th (l:List Nat) (k:Nat->Bool):Bool:=fD (β:=Bool) false (fun n t ih=>match t with | []=>k n | _=>ih) l
noncomputable def Id (it:Value) (S:St) (K:VK):Bool:=
 match it with
 | .pointer (some ⟨i,0,none⟩)=>oV S.h i fun o=>match o with
  | .iter (some r) _ seen last=>oV S.h r fun o=>match o with
   | .map es c=>match Nat.beq c last with
    | true=>Th seen fun b=>Te b es fun _ e=>K (.tuple ⟨[e.key,e.val]⟩) S
    | false=>false
   | _=>false
  | _=>false
 | _=>false
noncomputable def JG (big:Bool) (l:List Value) (j:IntKind) (x:Int) (K:Value->Bool):Bool:=
 fD (β:=Int->Bool) (fun x=>K (.int j x)) (fun v _ ih x=>match v with
  | .int _ y=>dW (dW big (WJ x y) (WJ y x)) (ih y) (ih x)
  | _=>false) l x
noncomputable def DI (S:St) (size n:Nat) (x:Value) (k:List Value->Bool):Bool:=
 match x with
 | .slice none _ _=>match n with | 0=>k [] | _=>false
 | .slice (some ⟨i,o,sp⟩) _ _=>match n with
  | 0=>k []
  | n+1=>match sp with
   | some (_+1)=>false
   | _=>AZ S i o ((n+1)*size) k
 | .string s=>match size with
  | 1=>FP n s.data.toList fun l=>Td l k
  | _=>false
 | _=>false
noncomputable def FC (x:Value) (k:Nat->Bool):Bool:=
 match x with
 | .slice _ n _=>k n
 | .string s=>vX s.data.toList k
 | _=>false
noncomputable def FD (elem:TypeId) (old new:List Value) (n:Nat) (from_:Option (Nat×List Value×TypeId×List Nat)) (S:St) (K:VK):Bool:=
 uM old new fun cs=>
  match from_ with
  | none=>qW S (.cells cs elem (.grown [])) fun i S=>K (.slice (some ⟨i,0,some 0⟩) n n) S
  | some (b,vs,e,olds)=>pV S b (.cells vs e .stale) fun S=>qW S (.cells cs elem (.grown (b::olds))) fun i S=>K (.slice (some ⟨i,0,some 0⟩) n n) S
def WK:Option TypeDesc->Bool
 | some (.slice _) | some .string=>true
 | _=>false
def ZI:Option Nat->Bool
 | none | some 0=>true
 | _=>false
noncomputable def OG (size:Nat) (new:List Value) (base:Option Addr) (sLen sCap need:Nat) (S:St) (K:VK):Bool:=
 match base with
 | some ⟨b,o,sp⟩=>match ZI sp,allB oneCell new with
  | true,true=>cF (o+sLen*size) fun at_=>oW S b at_ new fun S=>K (.slice (some ⟨b,o,sp⟩) need sCap) S
  | _,_=>false
 | none=>false
noncomputable def LT (elem:TypeId) (size:Nat) (new:List Value) (base:Option Addr) (sLen need:Nat) (S:St) (K:VK):Bool:=
 match base with
 | none=>match sLen with | 0=>FD elem [] new need none S K | _=>false
 | some ⟨b,o,none⟩=>AZ S b o (sLen*size) fun old=>FD elem old new need none S K
 | some ⟨b,o,some 0⟩=>tI S b fun vs e c=>vX vs fun m=>match Nat.beq (o+sLen*size) m,c,bQ P e with
  | true,.grown olds,some q=>match Nat.beq q size,allB oneCell new,Nat.beq e elem with
   | true,true,true=>AZ S b o (sLen*size) fun old=>FD elem old new need (some (b,vs,e,olds)) S K
   | _,_,_=>false
  | _,_,_=>false
 | _=>false
noncomputable def DJ (argTypes:List TypeId) (s x:Value) (S:St) (K:VK):Bool:=
 match argTypes with
 | sT::xT::_=>
  match isSlice P sT,WK (P.underlying xT)with
  | some elem,true=>match P.info? elem with
   | some info=>match info.size,info.zero,s with
    | size+1,some z,.slice base sLen sCap=>match Nat.beq z.cells.size (size+1)with
     | true=>FC x fun n=>
      match n with
      | 0=>match Nat.ble sLen sCap with | true=>K (.slice base sLen sCap) S | false=>false
      | n'+1=>DI S (size+1) (n'+1) x fun new=>cF (sLen+(n'+1)) fun need=>
       match Nat.ble (need*(info.bytes+1)) 1099511627776 with
       | true=>match Nat.ble need sCap with
        | true=>OG (size+1) new base sLen sCap need S K
        | false=>LT P elem (size+1) new base sLen need S K
       | false=>false
     | false=>false
    | _,_,_=>false
   | none=>false
  | _,_=>false
 | _=>false
noncomputable def Lw (argTypes:List TypeId) (dst src:Value) (S:St) (K:VK):Bool:=
 match argTypes with
 | dT::_=>match isSlice P dT with
  | some elem=>match bQ P elem,dst with
   | some (size+1),.slice base dLen _=>FC src fun m=>cF (Nat.min m dLen) fun n=>
    match n with
    | 0=>K (.int .i64 (.ofNat 0)) S
    | n'+1=>DI S (size+1) (n'+1) src fun cs=>match base with
     | some ⟨i,o,sp⟩=>match ZI sp,allB oneCell cs with
      | true,true=>oW S i o cs fun S=>K (.int .i64 (.ofNat (n'+1))) S
      | _,_=>false
     | none=>false
   | _,_=>false
  | none=>false
 | []=>false
noncomputable def nD (b:Builtin) (argTypes:List TypeId) (args:List Value) (S:St) (K:VK):Bool:=
 match b,args with
 | .len,[x]=>match argTypes with
  | t::_=>match x with
   | .slice _ n _=>match isSlice P t with | some _=>K (.int .i64 (.ofNat n)) S | none=>false
   | .string s=>match P.underlying t with | some .string=>vX s.data.toList fun n=>K (.int .i64 (.ofNat n)) S | _=>false
   | .map _=>match FH P t with | some _=>ZF S x fun _ es _=>vX es fun n=>K (.int .i64 (.ofNat n)) S | none=>false
   | .agg _=>match P.underlying t with | some (.array n _)=>K (.int .i64 (.ofNat n)) S | _=>false
   | _=>false
  | []=>false
 | .append,[s,x]=>DJ P argTypes s x S K
 | .copy,[d,s]=>Lw P argTypes d s S K
 | .delete,[m,k]=>ZG P argTypes m k S fun S=>K (.tuple #[]) S
 | .min,.int j x::l=>JG false l j x fun v=>K v S
 | .max,.int j x::l=>JG true l j x fun v=>K v S
 | .cap,[x]=>match argTypes with
  | t::_=>match isSlice P t,x with
   | some _,.slice none _ c=>K (.int .i64 (.ofNat c)) S
   | some _,.slice (some ⟨_,_,none⟩) _ c=>K (.int .i64 (.ofNat c)) S
   | _,_=>false
  | []=>false
 | .clear,[.slice base n _]=>match argTypes with
  | t::_=>match isSlice P t with
   | some elem=>match bQ P elem,qC P elem with
    | some size,some zero=>match base,n with
     | none,_=>K (.tuple #[]) S
     | some _,0=>K (.tuple #[]) S
     | some ⟨i,o,sp⟩,n+1=>match ZI sp,Nat.beq zero.length size,allB bH zero,size with
      | true,true,true,_+1=>Dq zero (n+1) fun cs=>oW S i o cs fun S=>K (.tuple #[]) S
      | _,_,_,_=>false
    | _,_=>false
   | none=>false
  | []=>false
 | _,_=>false
end ops
structure Env where
 P:Program
 ov:FuncId->Option (List Value->St->VK->Bool)
 call:Lu
 round:Nat->List Value->St->VK->Bool
 most:Nat
def zH (P:Program) (t:TypeId) (name:String):Option FuncId:=match P.info? t,P.underlying t with
 | some info,some d=>match info.methods.find? (·.name==name)with
  | some m=>match m.path.toList,m.func with
   | [],some (g,pr)=>match d,pr with
    | .pointer _,true=>some g
    | .pointer _,false=>none
    | _,false=>some g
    | _,true=>none
   | _,_=>none
  | none=>none
 | _,_=>none
noncomputable def kR (E:Env) (A:aX) (c:Call) (S:St) (K:VK):Bool:=
 IR A c.args.toList fun args=>
  match c.callee with
  | .builtin b=>nD E.P b c.argTypes.toList args S K
  | .value f=>pT A f fun f=>match f with
   | .func (.func g) first captured=>uM first.toList args fun l=>uM l captured.toList fun l=>E.call g l S K
   | .func (.yield l) first captured=>match first.toList,captured.toList with
    | [],[]=>E.round l args S K
    | _,_=>false
   | _=>false
  | .invoke r m=>pT A r fun v=>match v with
   | .iface t x=>match zH E.P t m with
    | some g=>E.call g (x::args) S K
    | none=>false
   | _=>false
noncomputable def KF (A:aX) (x:Option Operand) (k:Option Value->Bool):Bool:=
 match x with
 | none=>k none
 | some x=>pT A x fun v=>k (some v)
noncomputable def rP (E:Env) (o:Oper) (A:aX) (S:St) (K:VK):Bool:=
 match o.op with
 | .move x | .assign x=>pT A x fun v=>K v S
 | .pick c a b=>pT A c fun c=>pT A a fun a=>pT A b fun b=>match c with
  | .bool true=>K a S
  | .bool false=>K b S
  | _=>false
 | .alloc t=>FR E.P t S K
 | .box t x=>pT A x fun v=>Dr t v S K
 | .build t ps=>SS E.P A t ps.toList fun v=>K v S
 | .buildSlice t n ps=>sV E.P A t n ps.toList S K
 | .load t a=>pT A a fun a=>CA E.P t a S K
 | .store t a x=>pT A a fun a=>pT A x fun x=>KE E.P t a x S fun S=>K undef S
 | .nilCheck x=>pT A x fun v=>match v with
  | .pointer (some a)=>K (.pointer (some a)) S
  | .func (.func f) a b=>K (.func (.func f) a b) S
  | .func (.yield f) a b=>K (.func (.yield f) a b) S
  | .func (.method s) ⟨[.iface t w]⟩ ⟨[]⟩=>match zH E.P t s with
   | some _=>K (.func (.method s) ⟨[.iface t w]⟩ ⟨[]⟩) S
   | none=>false
  | .iface t w=>K (.iface t w) S
  | _=>false
 | .binOp op t x y _=>pT A x fun a=>pT A y fun b=>RE E.P op t a b fun v=>K v S
 | .unOp op _ x=>pT A x fun a=>unK op a fun v=>K v S
 | .convert s d x=>pT A x fun a=>PY E.P s d a S K
 | .makeInterface t x=>pT A x fun v=>match E.P.underlying t with
  | some (.interface _)=>false
  | some _=>K (.iface t v) S
  | none=>false
 | .makeFunc fn first cap=>match fn with
  | .func f=>IR A first.toList fun a=>IR A cap.toList fun b=>K (.func (.func f) ⟨a⟩ ⟨b⟩) S
  | .method s=>match first.toList,cap.toList with
   | [x],[]=>pT A x fun v=>K (.func (.method s) ⟨[v]⟩ ⟨[]⟩) S
   | _,_=>false
  | _=>false
 | .makeMap _ none=>qW S (.map [] 0) fun i S=>K (.map (some i)) S
 | .makeMap t (some r)=>pT A r fun r=>match r,FH E.P t with
  | .int _ _,some _=>qW S (.map [] 0) fun i S=>K (.map (some i)) S
  | _,_=>false
 | .range t x=>pT A x fun x=>ZH E.P t x S K
 | .next it s=>pT A it fun it=>match s with | true=>false | false=>Tg it S K
 | .entry it=>pT A it fun it=>Id it S K
 | .typeAssert x _ as ok=>pT A x fun v=>match v,E.P.underlying as with
  | .iface _ _,some (.interface _)=>false
  | .iface t w,some _=>match Nat.beq t as,ok with
   | true,true=>K (.tuple ⟨[w,.bool true]⟩) S
   | true,false=>K w S
   | false,_=>false
  | _,_=>false
 | .makeSlice t l c=>pT A l fun l=>pT A c fun c=>qJ E.P t l c S K
 | .slice t x lo hi mx=>match mx,hi with
  | some _,none=>false
  | _,_=>pT A x fun x=>KF A lo fun lo=>KF A hi fun hi=>KF A mx fun mx=>rG E.P t x lo hi mx S fun v=>K v S
 | .fieldAddr s x f=>pT A x fun x=>vC E.P s x f fun v=>K v S
 | .field t x f=>pT A x fun x=>FQ E.P t x f fun v=>K v S
 | .indexAddr t x ix=>pT A x fun x=>pT A ix fun ix=>vB E.P t x ix fun v=>K v S
 | .index t x ix=>pT A x fun x=>pT A ix fun ix=>OE E.P t x ix fun v=>K v S
 | .lookup t x ix ok=>pT A x fun x=>pT A ix fun ix=>HN E.P t x ix ok S K
 | .mapUpdate t m k x | .insert t m k x=>pT A m fun m=>pT A k fun k=>pT A x fun x=>vD E.P t m k x S fun S=>K undef S
 | .mapEntry t m k=>pT A m fun m=>pT A k fun k=>OF E.P t m k S K
 | .entryStore _ m s x=>pT A m fun m=>pT A s fun s=>pT A x fun x=>FS m s x S fun S=>K undef S
 | .extract t i=>pT A t fun v=>match v with
  | .tuple vs=>IQ vs.toList i fun v=>K v S
  | _=>false
 | .call c=>kR E A c S K
 | _=>false
noncomputable def xL (ops:Array Oper) (o:Oper) (A:aX) (k:Bool->Bool):Bool:=
 match o.guard with
 | none=>k true
 | some (j,want)=>match ops[j]? with
  | some o'=>match o'.dst with
   | some d=>JE A.tmps d fun v=>match v with
    | .bool b=>match b,want with | true,true | false,false=>k true | _,_=>k false
    | _=>k false
   | none=>k false
  | none=>k false
noncomputable def OH (E:Env) (ops:Array Oper) (o:Oper) (A:aX) (S:St) (k:aX->St->Bool):Bool:=
 xL ops o A fun b=>dW b (rP E o A S fun v S=>jO A o.dst v fun A=>k A S) (jO A o.dst undef fun A=>k A S)
noncomputable def RF (E:Env) (ops:Array Oper) (l:List Oper) (A:aX) (S:St) (k:aX->St->Bool):Bool:=
 fD (β:=aX->St->Bool) (fun A S=>k A S) (fun o _ ih A S=>OH E ops o A S ih) l A S
abbrev LP:=rD->aX->St->Bool
noncomputable def aFD (body:aX->St->LP->Bool) (most:Nat) (A:aX) (S:St) (K:LP):Bool:=
 FG (β:=aX->St->Bool) (fun _ _=>false) (fun _ ih A S=>body A S fun e A S=>match e with | .normal=>ih A S | e=>K e A S) most A S
noncomputable def OI (E:Env) (r:Option Nat) (f:Operand) (params:Array Tmp) (assign body:Code) (A:aX) (S:St) (K:LP):Bool:=
 pT A f fun f=>match f with
  | .func (.func g) first captured=>
   let go (A:aX) (S:St):Bool:=qW S (.loop A.tmps params.toList assign body .ready none) fun l S=>
    uM first.toList [.func (.yield l) #[] #[]] fun as=>uM as captured.toList fun as=>E.call g as S fun _ S=>
     oV S.h l fun o=>match o with
      | .loop tm ps as bo st pe=>match st with
       | .busy=>false
       | _=>pV S l (.loop tm ps as bo .exhausted pe) fun S=>match pe with
        | none=>K .normal A S
        | some .ret=>K .ret A S
        | some (.exit id)=>K (.exit id) A S
        | _=>false
      | _=>false
   match r with
   | some l=>oV S.h l fun o=>match o with | .loop _ _ _ _ _ _=>go A S | _=>false
   | none=>qW S .defers fun d S=>go ⟨A.tmps,d::A.marks,A.g⟩ S
  | _=>false
noncomputable def xM (E:Env) (dr:Array Oper->aX->St->(aX->St->Bool)->Bool) (r:Option Nat) (c:Code):aX->St->LP->Bool:=
 aGR (β:=aX->St->LP->Bool)
  (fun A S K=>K .normal A S)
  (fun ops draw A S K=>dW draw (dr ops A S fun A S=>K .normal A S) (RF E ops ops.toList A S fun A S=>K .normal A S))
  (fun ha hb A S K=>ha A S fun e A S=>match e with | .normal=>hb A S K | e=>K e A S)
  (fun c ha hb A S K=>pT A c fun v=>match v with | .bool b=>dW b (ha A S K) (hb A S K) | _=>false)
  (fun id h A S K=>h A S fun e A S=>match e with
   | .exit i=>match Nat.beq i id with | true=>K .normal A S | false=>K (.exit i) A S
   | e=>K e A S)
  (fun h A S K=>aFD h E.most A S K)
  (fun h A S K=>h A S K)
  (fun f params assign body A S K=>OI E r f params assign body A S K)
  (fun id A S K=>K (.exit id) A S)
  (fun A S K=>K .normal A S)
  (fun A S K=>K .ret A S)
  (fun _ _ _=>false) c
noncomputable def DK (l:List Nat) (S:St) (k:St->Bool):Bool:=
 fD (β:=St->Bool) (fun S=>k S) (fun d _ ih S=>oV S.h d fun o=>match o with | .defers=>pV S d .dead ih | _=>false) l S
noncomputable def pJ (P:Program) (rs:List ResultVar) (A:aX) (S:St) (k:List Value->Bool):Bool:=
 fD (β:=(List Value->Bool)->Bool) (fun k=>k []) (fun x _ ih k=>match x with
  | .tmp t=>JE A.tmps t fun v=>ih fun vs=>k (v::vs)
  | .cell a t=>JE A.tmps a fun a=>CA P t a S fun v _=>ih fun vs=>k (v::vs)) rs k
noncomputable def ZJ (E:Env) (dr:Array Oper->aX->St->(aX->St->Bool)->Bool) (f:FuncId) (args:List Value) (S:St) (K:VK):Bool:=
 match E.P.funcs[f]? with
 | some fn=>match fn.body with
  | some c=>cF fn.ntmps fun n=>Tc n args fun ts=>xM E dr none c ⟨ts,[],E.P.globals.size⟩ S fun e A S=>
   match e with
   | .exit _=>false
   | _=>DK A.marks S fun S=>pJ E.P fn.results.toList A S fun vs=>match vs with | [v]=>K v S | vs=>K (.tuple ⟨vs⟩) S
  | none=>false
 | none=>false
noncomputable def Ie (E:Env) (dr:Array Oper->aX->St->(aX->St->Bool)->Bool) (l:Nat) (args:List Value) (S:St) (K:VK):Bool:=
 oV S.h l fun o=>match o with
  | .loop tmps params assign body _ _=>
   let laid:List Tmp->List Value->Tm->(Tm->Bool)->Bool:=fun ps=>fD (β:=List Value->Tm->(Tm->Bool)->Bool)
    (fun as ts k=>match as with | []=>k ts | _=>false) (fun p _ ih as ts k=>match as with | a::as=>qH a ts p fun ts=>ih as ts k | []=>false) ps
   laid params args tmps fun ts=>xM E dr (some l) assign ⟨ts,[],E.P.globals.size⟩ S fun e A S=>match e with
    | .normal=>oV S.h l fun o=>match o with
     | .loop tm ps as bo .ready pe=>pV S l (.loop tm ps as bo .busy pe) fun S=>xM E dr (some l) body A S fun e _ S=>
      oV S.h l fun o=>match o with
       | .loop tm ps as bo _ _=>match e with
        | .normal=>pV S l (.loop tm ps as bo .ready none) fun S=>K (.bool true) S
        | .ret=>pV S l (.loop tm ps as bo .done (some .ret)) fun S=>K (.bool false) S
        | .exit id=>pV S l (.loop tm ps as bo .done (some (.exit id))) fun S=>K (.bool false) S
       | _=>false
     | _=>false
    | _=>false
  | _=>false
noncomputable def env (P:Program) (ov:FuncId->Option (List Value->St->VK->Bool)) (dr:Env->Array Oper->aX->St->(aX->St->Bool)->Bool) (most:Nat) (n:Nat):Env:=
 FG (β:=Env) {P,ov,call:=fun _ _ _ _=>false,round:=fun _ _ _ _=>false,most}
  (fun _ E=>{P,ov,call:=fun f args S K=>match ov f with | some g=>g args S K | none=>ZJ E (dr E) f args S K,round:=fun l args S K=>Ie E (dr E) l args S K,most}) n
section comb
variable{α β:Type}
theorem zN (z:β) (s:Nat->β):lX 0 z s=z:=rfl
theorem TB (n:Nat) (z:β) (s:Nat->β):lX (n+1) z s=s n:=rfl
theorem rQ (z:β) (s:α->List α->β->β):fD z s []=z:=rfl
theorem bG (a:α) (l:List α) (z:β) (s:α->List α->β->β):fD z s (a::l)=s a l (fD z s l):=rfl
theorem OL (z:β) (s:Nat->β->β):FG z s 0=z:=rfl
theorem XW (n:Nat) (z:β) (s:Nat->β->β):FG z s (n+1)=s n (FG z s n):=rfl
theorem bI (n:Nat) (k:Nat->Bool):cF n k=k n:=by cases n<;>rfl
theorem nC (n:Int) (k:Int->Bool):tH n k=k n:=by cases n<;>simp [tH,aCp,bI]
theorem lT (b:Bool) (k:Bool->Bool):KC b k=k b:=by cases b<;>rfl
theorem nF (t:Tr α) (n:Nat) (k:α->Bool):oV t n k=match t.get n with | some x=>k x | none=>false:=by
 induction t generalizing n with
 | leaf=>rfl
 | node v l r ihl ihr=>
  cases n with
  | zero=>cases v<;>rfl
  | succ p=>
   have hd:oV (.node v l r) (p+1) k=(lX (Nat.mod p 2) (oV l (Nat.div p 2) k) fun _=>oV r (Nat.div p 2) k):=rfl;rw [hd];have hm:p%2=0\/p%2=1:=by omega
   rcases hm with hm | hm
   ·have:Nat.mod p 2=0:=hm
    rw [this,zN,ihl];have e1:(p+1) / 2=Nat.div p 2:=by show _=p / 2;omega
    simp only [Tr.get,Nat.add_eq_zero_iff,Nat.one_ne_zero,and_false,if_false,show(p+1)%2=1 by omega,if_true,e1]
   ·have:Nat.mod p 2=1:=hm
    rw [this];show oV r (Nat.div p 2) k=_;rw [ihr];have e1:(p+1) / 2-1=Nat.div p 2:=by show _=p / 2;omega
    simp only [Tr.get,Nat.add_eq_zero_iff,Nat.one_ne_zero,and_false,if_false,show ¬(p+1)%2=1 by omega,e1]
theorem DQ (x:α):∀(f:Nat) (t:Tr α) (n:Nat) (k:Tr α->Bool),IP x f t n k=k (Tr.yF x f t n):=by
 intro f;induction f with
 | zero=>intro t n k;rfl
 | succ f ih=>
  intro t n k
  have hs:IP x (f+1) t n k=tcase t
   (lX n (k (.node (some x) .leaf .leaf)) fun p=>lX (Nat.mod p 2) (IP x f .leaf (Nat.div p 2) fun c=>k (.node none c .leaf)) fun _=>IP x f .leaf (Nat.div p 2) fun c=>k (.node none .leaf c))
   (fun v l r=>lX n (k (.node (some x) l r)) fun p=>lX (Nat.mod p 2) (IP x f l (Nat.div p 2) fun c=>k (.node v c r)) fun _=>IP x f r (Nat.div p 2) fun c=>k (.node v l c)):=rfl
  rw [hs];cases t with
  | leaf=>
   cases n with
   | zero=>simp [tcase,Tr.yF,zN]
   | succ p=>
    show(lX (Nat.mod p 2) _ fun _=>_)=_;have hm:p%2=0\/p%2=1:=by omega
    rcases hm with hm | hm
    ·have h0:Nat.mod p 2=0:=hm
     rw [h0,zN,ih];have e1:(p+1) / 2=Nat.div p 2:=by show _=p / 2;omega
     simp [Tr.yF,show(p+1)%2=1 by omega,e1]
    ·have h0:Nat.mod p 2=0+1:=hm
     rw [h0,TB,ih];have e1:(p+1) / 2-1=Nat.div p 2:=by show _=p / 2;omega
     simp [Tr.yF,show ¬(p+1)%2=1 by omega,e1]
  | node v l r=>
   cases n with
   | zero=>simp [tcase,Tr.yF,zN]
   | succ p=>
    show(lX (Nat.mod p 2) _ fun _=>_)=_;have hm:p%2=0\/p%2=1:=by omega
    rcases hm with hm | hm
    ·have h0:Nat.mod p 2=0:=hm
     rw [h0,zN,ih];have e1:(p+1) / 2=Nat.div p 2:=by show _=p / 2;omega
     simp [Tr.yF,show(p+1)%2=1 by omega,e1]
    ·have h0:Nat.mod p 2=0+1:=hm
     rw [h0,TB,ih];have e1:(p+1) / 2-1=Nat.div p 2:=by show _=p / 2;omega
     simp [Tr.yF,show ¬(p+1)%2=1 by omega,e1]
theorem TC (x:α):∀(f:Nat) (t:Tr α) (n m:Nat),n<f->(Tr.yF x f t n).get m=if m=n then some x else t.get m:=by
 intro f;induction f with
 | zero=>intro t n m h;omega
 | succ f ih=>
  intro t n m h;have hl:∀m,(Tr.leaf:Tr α).get m=none:=fun m=>rfl;cases t with
  | leaf=>
   simp only [Tr.yF];by_cases h0:n=0
   ·subst h0
    by_cases hm:m=0<;>simp [Tr.get,hm]
   ·by_cases h1:n%2=1
    ·simp only [h0,h1,if_true,if_false,Tr.get]
     by_cases hm:m=0
     ·subst hm;simp [Ne.symm h0]
     ·by_cases h2:m%2=1
      ·rw [if_neg hm,if_pos h2,ih _ _ _ (by omega)]
       by_cases e:m=n
       ·subst e;simp
       ·rw [if_neg e,if_neg (by omega),hl]
      ·rw [if_neg hm,if_neg h2,if_neg (by omega)]
    ·simp only [h0,h1,if_false,Tr.get]
     by_cases hm:m=0
     ·subst hm;simp [Ne.symm h0]
     ·by_cases h2:m%2=1
      ·rw [if_neg hm,if_pos h2,if_neg (by omega)]
      ·rw [if_neg hm,if_neg h2,ih _ _ _ (by omega)]
       by_cases e:m=n
       ·subst e;simp
       ·rw [if_neg e,if_neg (by omega),hl]
  | node v l r=>
   simp only [Tr.yF];by_cases h0:n=0
   ·subst h0
    by_cases hm:m=0<;>simp [Tr.get,hm]
   ·by_cases h1:n%2=1
    ·simp only [h0,h1,if_true,if_false,Tr.get]
     by_cases hm:m=0
     ·subst hm;simp [Ne.symm h0]
     ·by_cases h2:m%2=1
      ·rw [if_neg hm,if_pos h2,ih _ _ _ (by omega)]
       by_cases e:m=n
       ·subst e;simp
       ·rw [if_neg e,if_neg (by omega),if_neg hm,if_pos h2]
      ·rw [if_neg hm,if_neg h2,if_neg (by omega),if_neg hm,if_neg h2]
    ·simp only [h0,h1,if_false,Tr.get]
     by_cases hm:m=0
     ·subst hm;simp [Ne.symm h0]
     ·by_cases h2:m%2=1
      ·rw [if_neg hm,if_pos h2,if_neg (by omega),if_neg hm,if_pos h2]
      ·rw [if_neg hm,if_neg h2,ih _ _ _ (by omega)]
       by_cases e:m=n
       ·subst e;simp
       ·rw [if_neg e,if_neg (by omega),if_neg hm,if_neg h2]
theorem get_put (t:Tr α) (n:Nat) (x:α) (m:Nat):(t.put n x).get m=if m=n then some x else t.get m:=TC x _ t n m (Nat.lt_succ_self n)
theorem aAq (l:List α) (i:Nat) (k:α->Bool):IQ l i k=match l[i]? with | some a=>k a | none=>false:=by
 induction l generalizing i with
 | nil=>rfl
 | cons a l ih=>
  cases i with
  | zero=>rfl
  | succ i=>exact(ih i).trans (by simp)
theorem SY (v:α) (l:List α) (i:Nat) (k:List α->Bool):Lt v l i k=k (l.set i v):=by
 induction l generalizing i k with
 | nil=>rfl
 | cons a l ih=>
  cases i with
  | zero=>rfl
  | succ i=>exact ih i _
theorem Lx (l:List α) (k:List α->Bool):aAl l k=k l:=by
 induction l generalizing k with
 | nil=>rfl
 | cons a l ih=>exact ih _
theorem jJ (l m:List α) (k:List α->Bool):uM l m k=k (l++m):=by
 induction l generalizing k with
 | nil=>rfl
 | cons a l ih=>exact ih _
theorem vY (n:Nat) (l:List α) (k:List α->Bool):FP n l k=if n<=l.length then k (l.take n)else false:=by
 induction n generalizing l k with
 | zero=>simp [FP,OL]
 | succ n ih=>
  cases l with
  | nil=>rfl
  | cons a l=>
   show FP n l (fun t'=>k (a::t'))=_;rw [ih];simp
theorem tM (n:Nat) (l:List α) (k:List α->Bool):AY n l k=if n<=l.length then k (l.drop n)else false:=by
 induction n generalizing l with
 | zero=>simp [AY,OL]
 | succ n ih=>
  cases l with
  | nil=>rfl
  | cons a l=>
   show AY n l k=_;rw [ih];simp
def splice (off:Nat) (new l:List α):List α:=l.take off++new++l.drop (off+new.length)
theorem To (new l:List α) (k:List α->Bool):Dp new l k=if new.length<=l.length then k (new++l.drop new.length)else false:=by
 induction new generalizing l k with
 | nil=>simp [Dp,rQ]
 | cons a new ih=>
  cases l with
  | nil=>rfl
  | cons b l=>
   show Dp new l (fun t'=>k (a::t'))=_;rw [ih];simp
theorem sK (off:Nat) (new l:List α) (k:List α->Bool):oE off new l k=if off+new.length<=l.length then k (splice off new l)else false:=by
 induction off generalizing l k with
 | zero=>
  show Dp new l k=_;rw [To];simp [splice]
 | succ off ih=>
  cases l with
  | nil=>show false=_;rw [if_neg (by simp)]
  | cons b l=>
   show oE off new l (fun t'=>k (b::t'))=_;rw [ih];have:off+1+new.length<=(b::l).length↔off+new.length<=l.length:=by simp;omega
   simp only [this];have e:splice (off+1) new (b::l)=b::splice off new l:=by simp [splice,show off+1+new.length=(off+new.length)+1 by omega]
   rw [e]
theorem vR (off:Nat) (new l:List α) (h:off+new.length<=l.length):(splice off new l).length=l.length:=by simp [splice];omega
theorem nS (off:Nat) (new l:List α) (h:off+new.length<=l.length) (j:Nat):
 (splice off new l)[j]? =if off<=j/\j<off+new.length then new[j-off]? else l[j]? :=by
 unfold splice;by_cases h1:j<off
 ·rw [if_neg (by omega),List.append_assoc,List.getElem?_append_left (by simp;omega),List.getElem?_take,if_pos h1]
 ·by_cases h2:j<off+new.length
  ·rw [if_pos (by omega),List.append_assoc,List.getElem?_append_right (by simp;omega),List.getElem?_append_left (by simp;omega)]
   congr 1;simp;omega
  ·rw [if_neg (by omega),List.getElem?_append_right (by simp;omega),List.getElem?_drop]
   congr 1;simp;omega
theorem iW (l:List α) (k:Nat->Bool):vX l k=k l.length:=by
 have h:∀(l:List α) (n:Nat),fD (β:=Nat->Bool) (fun n=>k n) (fun _ _ ih n=>cF (Nat.succ n) ih) l n=k (n+l.length):=by
  intro l;induction l with
  | nil=>intro n;rfl
  | cons a l ih=>
   intro n;rw [bG,bI,ih]
   congr 1;simp;omega
 unfold vX;rw [h,Nat.zero_add]
theorem vS (z:List α) (n:Nat) (k:List α->Bool):Dq z n k=k (List.replicate n z).flatten:=by
 have h:∀(n:Nat) (acc:List α),FG (β:=List α->Bool) (fun acc=>k acc) (fun _ ih acc=>uM z acc ih) n acc=k ((List.replicate n z).flatten++acc):=by
  intro n;induction n with
  | zero=>intro acc;rfl
  | succ n ih=>
   intro acc;rw [XW,jJ,ih]
   have:(List.replicate n z).flatten++(z++acc)=(List.replicate (n+1) z).flatten++acc:=by
    rw [List.replicate_succ',List.flatten_append];simp
   rw [this]
 unfold Dq;rw [h,List.append_nil]
theorem mQ (f:α->Bool) (l:List α):allB f l=l.all f:=by
 induction l with
 | nil=>rfl
 | cons a l ih=>
  show dW (f a) (allB f l) false=_;cases h:f a<;>simp [dW,h,ih]
theorem Ot (l:List α) (i:Nat) (k:List α->Bool):Tf l i k=k (l.eraseIdx i):=by
 induction l generalizing i k with
 | nil=>rfl
 | cons a l ih=>
  cases i with
  | zero=>rfl
  | succ i=>exact ih i _
end comb
theorem Ec (l:List Nat) (h:Tr gF) (k:Tr gF->Bool):XQ l h k=k (l.foldl (fun h i=>h.put i .dead) h):=by
 induction l generalizing h with
 | nil=>rfl
 | cons i l ih=>
  show IP .dead (Nat.succ i) h i (fun h=>XQ l h k)=_;rw [DQ,ih];rfl
theorem Ed (l:List Nat) (h:Tr gF) (m:Nat):(l.foldl (fun h i=>h.put i gF.dead) h).get m=if m∈l then some .dead else h.get m:=by
 induction l generalizing h with
 | nil=>simp
 | cons i l ih=>
  rw [List.foldl_cons,ih,get_put];by_cases h1:m∈l
  ·simp [h1]
  ·by_cases h2:m=i
   ·simp [h2]
   ·simp [h1,h2]
def St.set (S:St) (i:Nat) (o:gF):St:=⟨S.h.put i o,S.n⟩
def St.new (S:St) (o:gF):St:=⟨S.h.put S.n o,S.n+1⟩
def St.obj (S:St) (i:Nat):Option gF:=S.h.get i
theorem vT (S:St) (i:Nat) (o:gF) (j:Nat):(S.set i o).obj j=if j=i then some o else S.obj j:=get_put _ _ _ _
theorem DP (S:St) (o:gF) (j:Nat):(S.new o).obj j=if j=S.n then some o else S.obj j:=get_put _ _ _ _
theorem gD (S:St) (o:gF) (k:Nat->St->Bool):qW S o k=k S.n (S.new o):=by simp [qW,DQ,bI,St.new,Tr.put]
theorem fS (S:St) (i:Nat) (o:gF) (k:St->Bool):pV S i o k=k (S.set i o):=by simp [pV,DQ,St.set,Tr.put]
theorem wA{S:St}{i:Nat}{k:List Value->TypeId->CK->Bool} (h:tI S i k=true):∃vs e c,S.obj i=some (.cells vs e c)/\k vs e c=true:=by
 unfold tI at h;rw [nF]at h;cases ho:S.h.get i with
 | none=>simp [ho]at h
 | some o=>cases o<;>simp [ho]at h;exact⟨_,_,_,ho,h⟩
theorem sM{S:St}{i off n:Nat}{k:List Value->Bool} (h:AZ S i off n k=true):
 ∃vs e c,S.obj i=some (.cells vs e c)/\off+n<=vs.length/\k ((vs.drop off).take n)=true:=by
 obtain⟨vs,e,c,ho,h⟩:=wA h;rw [tM]at h;split at h
 ·rw [vY]at h
  split at h
  ·rename_i h1 h2
   exact⟨vs,e,c,ho,by simp at h2;omega,h⟩
  ·simp at h
 ·simp at h
theorem CE{α:Type}{l:List α}{i:Nat}{k:α->Bool} (h:IQ l i k=true):∃a,l[i]? =some a/\k a=true:=by
 rw [aAq]at h;cases ha:l[i]? with
 | none=>simp [ha]at h
 | some a=>exact⟨a,rfl,by simpa [ha]using h⟩
theorem zO{T:Tm}{i:Nat}{k:Value->Bool} (h:JE T i k=true):∃v,T.t.get i=some v/\k v=true:=by
 unfold JE at h;rw [nF]at h;cases hx:T.t.get i with
 | none=>rw [hx]at h;cases h
 | some x=>rw [hx]at h;exact⟨x,rfl,h⟩
def Tm.put (T:Tm) (i:Nat) (v:Value):Tm:=⟨T.t.put i v,T.n⟩
theorem vG{v:Value}{T:Tm}{i:Nat}{k:Tm->Bool} (h:qH v T i k=true):i<T.n/\k (T.put i v)=true:=by
 unfold qH at h;split at h
 ·rename_i hb
  rw [DQ]at h;exact⟨Nat.le_of_ble_eq_true hb,h⟩
 ·cases h
theorem Tp{A:aX}{x:Operand}{k:Value->Bool} (h:pT A x k=true):
 ∃v,k v=true/\((∃t,x= .tmp t/\A.tmps.t.get t=some v)\/(x= .const v/\lP v=true)\/(∃g,x= .global g/\g<A.g/\v= .pointer (some ⟨g,0,none⟩))\/(∃f,x= .func f/\v= .func (.func f) #[] #[])):=by
 cases x with
 | tmp t=>obtain⟨a,ha,hk⟩:=zO h;exact⟨a,hk,.inl ⟨t,rfl,ha⟩⟩
 | const v=>
  cases hf:lP v with
  | true=>exact⟨v,by simpa [pT,hf]using h,.inr (.inl ⟨rfl,hf⟩)⟩
  | false=>simp [pT,hf]at h
 | global g=>
  cases hg:Nat.blt g A.g with
  | true=>exact⟨_,by simpa [pT,hg]using h,.inr (.inr (.inl ⟨g,rfl,Nat.le_of_ble_eq_true hg,rfl⟩))⟩
  | false=>simp [pT,hg]at h
 | func f=>exact⟨_,h,.inr (.inr (.inr ⟨f,rfl,rfl⟩))⟩
end Go.Am
namespace Go.Am
open Go.RowKit
structure Loc where
 b:Nat
 s:Nat
 e:Nat
 m:Nat
abbrev Rn:=Nat->Option Loc
inductive VR (U:Rn):Value->Value->Prop
 | flat {v:Value} (h:bH v=true):VR U v v
 | ptr {i o:Nat} {L:Loc} (h:U i=some L):VR U (.pointer (some ⟨i,o,none⟩)) (.pointer (some ⟨L.b,L.s+o,none⟩))
 | slice {i o n c:Nat} {L:Loc} (h:U i=some L):VR U (.slice (some ⟨i,o,none⟩) n c) (.slice (some ⟨L.b,L.s+o,none⟩) n c)
 | mP {i o n c c':Nat} {L:Loc} (h:U i=some L) (hc:c<=c') (hn:n<=c) (he:L.s+o+c'*L.m=L.e) (hm:0<L.m):VR U (.slice (some ⟨i,o,some 0⟩) n c) (.slice (some ⟨L.b,L.s+o,none⟩) n c')
 | tK {i c':Nat} {a:Addr}:VR U (.slice (some ⟨i,0,some 1⟩) 0 0) (.slice (some a) 0 c')
 | tL {b o s:Nat} {sp:Option Nat} (hs:sp=match s with | 0=>none | k+1=>some k):VR U (.slice (some ⟨b,o,some (s+2)⟩) 0 0) (.slice (some ⟨b,o,sp⟩) 0 0)
 | map {i:Nat} {L:Loc} (h:U i=some L):VR U (.map (some i)) (.map (some L.b))
 | func {f:FuncId} {a a' c c':Array Value} (ha:a.size=a'.size) (hc:c.size=c'.size) (h1:∀(k:Nat) (v v':Value),a.toList[k]? =some v->a'.toList[k]? =some v'->VR U v v')
  (h2:∀(k:Nat) (v v':Value),c.toList[k]? =some v->c'.toList[k]? =some v'->VR U v v'):VR U (.func (.func f) a c) (.func (.func f) a' c')
 | yield {l:Nat} {L:Loc} (h:U l=some L):VR U (.func (.yield l) #[] #[]) (.func (.yield L.b) #[] #[])
 | meth {s:String} {v v':Value} (h:VR U v v'):VR U (.func (.method s) ⟨[v]⟩ ⟨[]⟩) (.func (.method s) ⟨[v']⟩ ⟨[]⟩)
 | iface {t:TypeId} {v v':Value} (h:VR U v v'):VR U (.iface t v) (.iface t v')
 | agg {a a':Array Value} (ha:a.size=a'.size) (h1:∀(k:Nat) (v v':Value),a.toList[k]? =some v->a'.toList[k]? =some v'->VR U v v'):VR U (.agg a) (.agg a')
 | tuple {a a':Array Value} (ha:a.size=a'.size) (h1:∀(k:Nat) (v v':Value),a.toList[k]? =some v->a'.toList[k]? =some v'->VR U v v'):VR U (.tuple a) (.tuple a')
def jP (U:Rn) (l l':List Value):Prop:=l.length=l'.length/\∀(k:Nat) (v v':Value),l[k]? =some v->l'[k]? =some v'->VR U v v'
def Eg (U:Rn) (T:Tm) (l':List Value):Prop:=T.n=l'.length/\∀(k:Nat) (v:Value),T.t.get k=some v->∃v',l'[k]? =some v'/\VR U v v'
theorem Eg.get{U:Rn}{T:Tm}{l':List Value} (h:Eg U T l'){k:Nat}{v:Value} (hv:T.t.get k=some v):∃v',l'[k]? =some v'/\VR U v v':=h.2 k v hv
theorem Eg.set{U:Rn}{T:Tm}{l':List Value} (h:Eg U T l'){i:Nat} (hi:i<T.n){v v':Value} (hv:VR U v v'):Eg U (T.put i v) (l'.set i v'):=by
 refine⟨by simpa [Tm.put]using h.1,fun k x hx=>?_⟩;have hx:(T.t.put i v).get k=some x:=hx;rw [get_put]at hx;have hl:i<l'.length:=by rw [<-h.1];exact hi
 by_cases e:k=i
 ·subst e
  rw [if_pos rfl]at hx;injection hx with hx;subst hx;exact⟨v',by simp [hl],hv⟩
 ·rw [if_neg e]at hx
  obtain⟨y,hy,hr⟩:=h.2 k x hx;exact⟨y,by rw [List.getElem?_set_ne (Ne.symm e)];exact hy,hr⟩
def Ext (U U':Rn):Prop:=∀i L,U i=some L->U' i=some L
theorem Ext.refl (U:Rn):Ext U U:=fun _ _ h=>h
theorem Ext.trans{a b c:Rn} (h:Ext a b) (k:Ext b c):Ext a c:=fun i L e=>k i L (h i L e)
theorem VR.mono{U U':Rn} (he:Ext U U'){v v':Value} (h:VR U v v'):VR U' v v':=by
 induction h with
 | flat h=>exact .flat h
 | ptr h=>exact .ptr (he _ _ h)
 | slice h=>exact .slice (he _ _ h)
 | mP h hc hn hh hm=>exact .mP (he _ _ h) hc hn hh hm
 | tK=>exact .tK
 | tL hs=>exact .tL hs
 | map h=>exact .map (he _ _ h)
 | func ha hc _ _ i1 i2=>exact .func ha hc i1 i2
 | yield h=>exact .yield (he _ _ h)
 | meth _ ih=>exact .meth ih
 | iface _ ih=>exact .iface ih
 | agg ha _ ih=>exact .agg ha ih
 | tuple ha _ ih=>exact .tuple ha ih
theorem jP.mono{U U':Rn} (he:Ext U U'){l l':List Value} (h:jP U l l'):jP U' l l':=⟨h.1,fun k v v' a b=>(h.2 k v v' a b).mono he⟩
theorem Eg.mono{U U':Rn} (he:Ext U U'){T:Tm}{l':List Value} (h:Eg U T l'):Eg U' T l':=⟨h.1,fun k v hv=>let⟨v',a,b⟩:=h.2 k v hv;⟨v',a,b.mono he⟩⟩
theorem jP.nil (U:Rn):jP U [] []:=⟨rfl,by simp⟩
theorem jP.cons{U:Rn}{v v':Value}{l l':List Value} (h:VR U v v') (t:jP U l l'):jP U (v::l) (v'::l'):=by
 refine⟨by simp [t.1],fun k x x' a b=>?_⟩;cases k with
 | zero=>simp at a b;subst a b;exact h
 | succ k=>simp at a b;exact t.2 k x x' a b
theorem jP.head{U:Rn}{v v':Value}{l l':List Value} (h:jP U (v::l) (v'::l')):VR U v v':=h.2 0 v v' rfl rfl
theorem jP.tail{U:Rn}{v v':Value}{l l':List Value} (h:jP U (v::l) (v'::l')):jP U l l':=
 ⟨by simpa using h.1,fun k x x' a b=>h.2 (k+1) x x' (by simpa using a) (by simpa using b)⟩
theorem jP.iN{U:Rn}{l':List Value} (h:jP U [] l'):l'=[]:=List.eq_nil_of_length_eq_zero (by simpa using h.1.symm)
theorem jP.cC{U:Rn}{v:Value}{l l':List Value} (h:jP U (v::l) l'):∃v' t',l'=v'::t'/\VR U v v'/\jP U l t':=by
 cases l' with
 | nil=>have:=h.1;simp at this
 | cons v' t'=>exact⟨v',t',rfl,h.head,h.tail⟩
theorem jP.get{U:Rn}{l l':List Value} (h:jP U l l'){k:Nat}{v:Value} (hv:l[k]? =some v):∃v',l'[k]? =some v'/\VR U v v':=by
 have hk:k<l'.length:=by rw [<-h.1];exact(List.getElem?_eq_some_iff.1 hv).1
 exact⟨l'[k],List.getElem?_eq_getElem hk,h.2 k v _ hv (List.getElem?_eq_getElem hk)⟩
theorem jP.get_none{U:Rn}{l l':List Value} (h:jP U l l'){k:Nat} (hv:l[k]? =none):l'[k]? =none:=by
 rw [List.getElem?_eq_none_iff]at*;rw [<-h.1];exact hv
theorem jP.append{U:Rn}{l l' m m':List Value} (h:jP U l l') (k:jP U m m'):jP U (l++m) (l'++m'):=by
 refine⟨by simp [h.1,k.1],fun j v v' a b=>?_⟩;by_cases hj:j<l.length
 ·rw [List.getElem?_append_left hj]at a
  rw [List.getElem?_append_left (by rw [<-h.1];exact hj)]at b;exact h.2 j v v' a b
 ·rw [List.getElem?_append_right (by omega)]at a
  rw [List.getElem?_append_right (by rw [<-h.1];omega),<-h.1]at b;exact k.2 _ v v' a b
theorem jP.take{U:Rn}{l l':List Value} (h:jP U l l') (n:Nat):jP U (l.take n) (l'.take n):=by
 refine⟨by simp [h.1],fun j v v' a b=>?_⟩;rw [List.getElem?_take]at a b;split at a
 ·rename_i hj;rw [if_pos hj]at b;exact h.2 j v v' a b
 ·simp at a
theorem jP.drop{U:Rn}{l l':List Value} (h:jP U l l') (n:Nat):jP U (l.drop n) (l'.drop n):=by
 refine⟨by simp [h.1],fun j v v' a b=>?_⟩;rw [List.getElem?_drop]at a b;exact h.2 _ v v' a b
theorem jP.splice{U:Rn}{l l' n n':List Value} (h:jP U l l') (k:jP U n n') (off:Nat):jP U (splice off n l) (splice off n' l'):=by
 unfold Am.splice;rw [<-k.1];exact((h.take off).append k).append (h.drop _)
theorem jP.flat{U:Rn}{l:List Value} (h:∀v∈l,bH v=true):jP U l l:=
 ⟨rfl,fun k v v' a b=>by rw [a]at b;injection b with b;subst b;exact .flat (h v (List.mem_of_getElem? a))⟩
theorem jP.flatten{U:Rn}{z z':List Value} (h:jP U z z') (n:Nat):jP U (List.replicate n z).flatten (List.replicate n z').flatten:=by
 induction n with
 | zero=>exact .nil U
 | succ n ih=>simp only [List.replicate_succ,List.flatten_cons];exact h.append ih
theorem VR.lP{U:Rn}{v:Value} (h:lP v=true):VR U v v:=by
 cases v<;>first
  | exact .flat h
  | (rename_i cs;exact .agg rfl (jP.flat (U:=U) (List.all_eq_true.1 h)).2)
theorem VR.of_flat{U:Rn}{v v':Value} (h:VR U v v') (hf:bH v=true):v'=v:=by
 cases h<;>first | rfl | simp [bH]at hf
theorem VR.BA{U:Rn}{a:Array Value}{v':Value} (h:VR U (.agg a) v'):∃a',v'= .agg a'/\jP U a.toList a'.toList:=by
 cases h with
 | flat h=>simp [bH]at h
 | agg ha h1=>exact⟨_,rfl,by simpa using ha,h1⟩
theorem VR.CH{U:Rn}{a:Array Value}{v':Value} (h:VR U (.tuple a) v'):∃a',v'= .tuple a'/\jP U a.toList a'.toList:=by
 cases h with
 | flat h=>simp [bH]at h
 | tuple ha h1=>exact⟨_,rfl,by simpa using ha,h1⟩
theorem VR.ZK{U:Rn}{a a':Array Value} (h:jP U a.toList a'.toList):VR U (.agg a) (.agg a'):= .agg (by simpa using h.1) h.2
theorem VR.oI{U:Rn}{a a':Array Value} (h:jP U a.toList a'.toList):VR U (.tuple a) (.tuple a'):= .tuple (by simpa using h.1) h.2
theorem VR.Dy{U:Rn}{v v':Value} (h:VR U v v') (hf:Am.lP v=true):v'=v:=by
 by_cases ha:∃a,v= .agg a
 ·obtain⟨a,rfl⟩:=ha
  obtain⟨a',rfl,hl⟩:=h.BA;have hfl:∀x∈a.toList,bH x=true:=List.all_eq_true.1 hf
  have:a'.toList=a.toList:=by
   apply List.ext_getElem?;intro k;cases hk:a.toList[k]? with
   | none=>exact hl.get_none hk
   | some x=>
    obtain⟨x',hx',hr⟩:=hl.get hk;rw [hx',hr.of_flat (hfl x (List.mem_of_getElem? hk))]
  rw [Array.toList_inj.1 this]
 ·refine h.of_flat ?_
  cases v<;>first | exact hf | (exact absurd ⟨_,rfl⟩ ha)
theorem VR.oneCell{U:Rn}{v v':Value} (h:VR U v v') (ho:oneCell v=true):v'.oneCell'=true:=by
 cases h<;>first | rfl | (simp [Am.oneCell]at ho;done) | (rename_i h;revert ho;cases v<;>simp [Am.oneCell,Value.oneCell'])
section rel
variable (P:Program) (w0:World)
def TA (n:Nat) (fz:Nat×Nat):Prop:=∀x,x<n->¬(fz.1<=x/\x<fz.2)
def ZY (L:Loc) (cs:Array Value) (n:Nat) (fz:Nat×Nat) (e t:TypeId):CK->Prop
 | .ro=>bQ P e=some L.m
 | .rs=>bQ P e=some L.m/\∀j,j<n->¬(fz.1<=L.s+j/\L.s+j<fz.2)
 | .exact=>w0.heap.size<=L.b/\L.s=0/\cs.size=n/\TA cs.size fz/\t=e
 | .grown _=>w0.heap.size<=L.b/\TA cs.size fz/\L.e=cs.size/\bQ P e=some L.m/\t=e
 | .stale=>w0.heap.size<=L.b/\bQ P e=some L.m/\t=e
def FT (U:Rn) (e e':MapEntry):Prop:=e'.key=e.key/\lP e.key=true/\e'.born=e.born/\VR U e.val e'.val
def eH (U:Rn) (l l':List MapEntry):Prop:=l.length=l'.length/\∀(k:Nat) (e e':MapEntry),l[k]? =some e->l'[k]? =some e'->FT U e e'
def vF (U:Rn) (w:World) (i:Nat):gF->Prop
 | .dead=>True
 | .cells vs e k=>∃L cs t fz,U i=some L/\w.heap[L.b]? =some (.cells cs t fz)/\(∀(j:Nat) (v:Value),vs[j]? =some v->∃v',cs[L.s+j]? =some v'/\VR U v v')/\ZY P w0 L cs vs.length fz e t k
 | .map es c=>∃L es',U i=some L/\w0.heap.size<=L.b/\w.heap[L.b]? =some (.map es' c)/\eH U es es'.toList
 | .loop tmps params assign body st pe=>∃L r,U i=some L/\w0.heap.size<=L.b/\w.heap[L.b]? =some (.loop r)/\r.state=st/\r.pending=pe/\r.params.toList=params/\r.assign=assign/\r.body=body/\Eg U tmps r.tmps.toList
 | .defers=>∃L,U i=some L/\w0.heap.size<=L.b/\w.heap[L.b]? =some (.deferred (some []))
 | .iter none _ _ _=>∃L a b c,(U i=some L/\L.s=0)/\w0.heap.size<=L.b/\w.heap[L.b]? =some (.mapIter none a b c)
 | .iter (some r) since seen last=>∃L M,(U i=some L/\L.s=0)/\w0.heap.size<=L.b/\U r=some M/\w.heap[L.b]? =some (.mapIter (some M.b) since ⟨seen⟩ last)
def gF.sN:gF->Bool
 | .dead=>true
 | _=>false
def gF.reads:gF->Bool
 | .cells _ _ .ro | .cells _ _ .stale | .cells _ _ .rs=>true
 | _=>false
def gF.olds:gF->List Nat
 | .cells _ _ (.grown l)=>l
 | _=>[]
def Tn (i j:Nat) (a b:gF):Prop:=(a.reads=true/\b.reads=true)\/j∈a.olds\/i∈b.olds
def Ea (U:Rn) (j:Nat) (vs:List Value) (i:Nat) (o:gF):Prop:=
 o= .dead\/∃ws e,o= .cells ws e .stale/\∀L M,U j=some L->U i=some M->M.b=L.b->M.s+ws.length<=L.s+vs.length
structure Rel (U:Rn) (S:St) (w:World):Prop where
 RH:∀g,g<P.globals.size->∃L,U g=some L/\L.b=g/\L.s=0
 zK:∀i o,S.obj i=some o->vF P w0 U w i o
 dom:∀i,S.n<=i->U i=none
 lt:∀i o,S.obj i=some o->i<S.n
 loc:∀i L,U i=some L->L.b<w.heap.size
 sep:∀i j a b L M,i≠j->S.obj i=some a->S.obj j=some b->a.sN=false->b.sN=false->U i=some L->U j=some M->L.b=M.b->Tn i j a b
 old:∀j vs e olds,S.obj j=some (.cells vs e (.grown olds))->∀i∈olds,i<S.n/\∀o,S.obj i=some o->Ea U j vs i o
 base:Below w0.heap.size w0 w
end rel
theorem eH.mono{U U':Rn} (he:Ext U U'){l l':List MapEntry} (h:eH U l l'):eH U' l l':=
 ⟨h.1,fun k e e' a b=>let⟨x,y,z,u⟩:=h.2 k e e' a b;⟨x,y,z,u.mono he⟩⟩
theorem vF.frame{P:Program}{w0:World}{U U':Rn}{w w':World}{i:Nat}{o:gF} (he:Ext U U') (hb:∀L,U i=some L->w'.heap[L.b]? =w.heap[L.b]?) (h:vF P w0 U w i o):vF P w0 U' w' i o:=by
 cases o with
 | dead=>trivial
 | cells vs e k=>
  obtain⟨L,cs,t,fz,h1,h2,h3,h4⟩:=h;exact⟨L,cs,t,fz,he _ _ h1,(hb L h1).trans h2,fun j v hj=>let⟨v',a,b⟩:=h3 j v hj;⟨v',a,b.mono he⟩,h4⟩
 | map es c=>
  obtain⟨L,es',h1,h2,h3,h4⟩:=h;exact⟨L,es',he _ _ h1,h2,(hb L h1).trans h3,h4.mono he⟩
 | loop tmps params assign body st pe=>
  obtain⟨L,r,h1,h2,h3,h4,h5,h6,h7,h8,h9⟩:=h;exact⟨L,r,he _ _ h1,h2,(hb L h1).trans h3,h4,h5,h6,h7,h8,h9.mono he⟩
 | defers=>
  obtain⟨L,h1,h2,h3⟩:=h;exact⟨L,he _ _ h1,h2,(hb L h1).trans h3⟩
 | iter m since seen last=>
  cases m with
  | none=>obtain⟨L,a,b,c,h1,h2,h3⟩:=h;exact⟨L,a,b,c,⟨he _ _ h1.1,h1.2⟩,h2,(hb L h1.1).trans h3⟩
  | some r=>obtain⟨L,M,h1,h2,h3,h4⟩:=h;exact⟨L,M,⟨he _ _ h1.1,h1.2⟩,h2,he _ _ h3,(hb L h1.1).trans h4⟩
theorem vF.loc{P:Program}{w0:World}{U:Rn}{w:World}{i:Nat}{o:gF} (h:vF P w0 U w i o) (hd:o.sN=false):∃L,U i=some L:=by
 cases o with
 | dead=>cases hd
 | cells vs e k=>obtain⟨L,_,_,_,h1,_⟩:=h;exact⟨L,h1⟩
 | map es c=>obtain⟨L,_,h1,_⟩:=h;exact⟨L,h1⟩
 | loop _ _ _ _ _ _=>obtain⟨L,_,h1,_⟩:=h;exact⟨L,h1⟩
 | defers=>obtain⟨L,h1,_⟩:=h;exact⟨L,h1⟩
 | iter m since seen last=>cases m with
  | none=>obtain⟨L,_,_,_,h1,_⟩:=h;exact⟨L,h1.1⟩
  | some r=>obtain⟨L,_,h1,_⟩:=h;exact⟨L,h1.1⟩
def Fr (U:Rn) (w w':World):Prop:=w.heap.size<=w'.heap.size/\∀c,c<w.heap.size->(∀i L,U i=some L->L.b≠c)->w'.heap[c]? =w.heap[c]?
def Nw (U U':Rn) (w:World):Prop:=∀i L,U' i=some L->U i=some L\/w.heap.size<=L.b\/∃j M,U j=some M/\M.b=L.b
structure Stp (U:Rn) (w:World) (U':Rn) (w':World):Prop where
 ext:Ext U U'
 fr:Fr U w w'
 nw:Nw U U' w
theorem Stp.refl (U:Rn) (w:World):Stp U w U w:=⟨.refl U,⟨Nat.le_refl _,fun _ _ _=>rfl⟩,fun _ _ h=> .inl h⟩
theorem Stp.trans{U U1 U2:Rn}{w w1 w2:World} (h:Stp U w U1 w1) (k:Stp U1 w1 U2 w2):Stp U w U2 w2:=by
 refine⟨h.ext.trans k.ext,⟨Nat.le_trans h.fr.1 k.fr.1,fun c hc hn=>?_⟩,fun i L hi=>?_⟩
 ·rw [k.fr.2 c (Nat.lt_of_lt_of_le hc h.fr.1) (fun i L hi=>?_),h.fr.2 c hc hn]
  rcases h.nw i L hi with h1 | h1 | ⟨j,M,h1,h2⟩
  ·exact hn i L h1
  ·omega
  ·rw [<-h2];exact hn j M h1
 ·rcases k.nw i L hi with h1 | h1 | ⟨j,M,h1,h2⟩
  ·exact h.nw i L h1
  ·exact .inr (.inl (Nat.le_trans h.fr.1 h1))
  ·rcases h.nw j M h1 with h3 | h3 | ⟨q,N,h3,h4⟩
   ·exact .inr (.inr ⟨j,M,h3,h2⟩)
   ·exact .inr (.inl (by omega))
   ·exact .inr (.inr ⟨q,N,h3,by omega⟩)
def Rn.put (U:Rn) (i:Nat) (L:Loc):Rn:=fun j=>if j=i then some L else U j
theorem Rn.BD{U:Rn}{i:Nat}{L:Loc} (h:U i=none):Ext U (U.put i L):=fun j M hj=>by
 unfold Rn.put;by_cases e:j=i
 ·subst e;rw [h]at hj;cases hj
 ·rw [if_neg e];exact hj
theorem Rn.iJ (U:Rn) (i:Nat) (L:Loc):U.put i L i=some L:=if_pos rfl
section upd
variable{P:Program}{w0:World}{U:Rn}{S:St}{w:World}
theorem Rel.new (h:Rel P w0 U S w) (o:gF) (ob:Obj) (L:Loc) (hL:L.b=w.heap.size)
 (ho:∀U':Rn,Ext U U'->U' S.n=some L->vF P w0 U' (w.alloc ob) S.n o)
 (hold:∀i∈o.olds,i<S.n/\∀x,S.obj i=some x->x= .dead\/∃ws e,x= .cells ws e .stale):
 Rel P w0 (U.put S.n L) (S.new o) (w.alloc ob)/\Stp U w (U.put S.n L) (w.alloc ob):=by
 have hnone:=h.dom S.n (Nat.le_refl _);have he:Ext U (U.put S.n L):=Rn.BD hnone;have hold:∀k,k<w.heap.size->(w.alloc ob).heap[k]? =w.heap[k]? :=fun k hk=>by show(w.heap.push ob)[k]? =_;rw [Array.getElem?_push,if_neg (by omega)]
 have hsz:(w.alloc ob).heap.size=w.heap.size+1:=Array.size_push _
 have hput:∀j M,U.put S.n L j=some M->(j=S.n/\M=L)\/(j≠S.n/\U j=some M):=fun j M hj=>by
  unfold Rn.put at hj;by_cases e:j=S.n
  ·rw [if_pos e]at hj;injection hj with hj;exact .inl ⟨e,hj.symm⟩
  ·rw [if_neg e]at hj;exact .inr ⟨e,hj⟩
 have mT:∀j x,(S.new o).obj j=some x->(j=S.n/\x=o)\/(j≠S.n/\S.obj j=some x):=fun j x hx=>by
  rw [DP]at hx;by_cases e:j=S.n
  ·rw [if_pos e]at hx;injection hx with hx;exact .inl ⟨e,hx.symm⟩
  ·rw [if_neg e]at hx;exact .inr ⟨e,hx⟩
 refine⟨⟨fun g hg=>let⟨M,h1,h2⟩:=h.RH g hg;⟨M,he _ _ h1,h2⟩,fun j x hx=>?_,fun j hj=>?_,fun j x hx=>?_,fun j M hj=>?_,fun i j a b M N hij ha hb hda hdb hM hN RG=>?_,fun j vs e olds hj i hi=>?_,?_⟩,he,⟨by omega,fun c hc _=>hold c hc⟩,fun j M hj=>?_⟩
 ·rcases mT j x hx with ⟨e,ex⟩ | ⟨e,hx⟩
  ·subst e ex;exact ho _ he (Rn.iJ _ _ _)
  ·exact(h.zK j x hx).frame he fun M hM=>hold _ (h.loc j M hM)
 ·have hj':S.n+1<=j:=hj
  unfold Rn.put;rw [if_neg (by omega)];exact h.dom j (by omega)
 ·rcases mT j x hx with ⟨e,_⟩ | ⟨_,hx⟩
  ·subst e;exact Nat.lt_succ_self _
  ·exact Nat.lt_succ_of_lt (h.lt j x hx)
 ·rcases hput j M hj with ⟨_,e⟩ | ⟨_,hM⟩
  ·subst e;omega
  ·have:=h.loc j M hM;omega
 ·rcases hput i M hM with ⟨ei,eM⟩ | ⟨ei,hM'⟩<;>rcases hput j N hN with ⟨ej,eN⟩ | ⟨ej,hN'⟩
  ·omega
  ·have:=h.loc j N hN';rw [eM]at RG;omega
  ·have:=h.loc i M hM';rw [eN]at RG;omega
  ·rcases mT i a ha with ⟨e,_⟩ | ⟨_,ha'⟩
   ·exact absurd e ei
   ·rcases mT j b hb with ⟨e,_⟩ | ⟨_,hb'⟩
    ·exact absurd e ej
    ·exact h.sep i j a b M N hij ha' hb' hda hdb hM' hN' RG
 ·rcases mT j _ hj with ⟨e1,e2⟩ | ⟨e1,hj'⟩
  ·subst e1 e2
   obtain⟨h1,h2⟩:=hold i hi;refine⟨Nat.lt_succ_of_lt h1,fun x hx=>?_⟩;rcases mT i x hx with ⟨e3,_⟩ | ⟨_,hx'⟩
   ·omega
   ·rcases h2 x hx' with h3 | ⟨ws,e',h3⟩
    ·exact .inl h3
    ·refine .inr ⟨ws,e',h3,fun L1 M hL1 hM hb=>?_⟩
     rcases hput _ _ hL1 with ⟨_,e4⟩ | ⟨e4,_⟩
     ·rcases hput _ _ hM with ⟨e5,_⟩ | ⟨_,hM'⟩
      ·omega
      ·have:=h.loc i M hM';rw [e4]at hb;omega
     ·exact absurd rfl e4
  ·obtain⟨h1,h2⟩:=h.old j vs e olds hj' i hi
   refine⟨Nat.lt_succ_of_lt h1,fun x hx=>?_⟩;rcases mT i x hx with ⟨e3,_⟩ | ⟨e3,hx'⟩
   ·omega
   ·rcases h2 x hx' with h3 | ⟨ws,e',h3,h4⟩
    ·exact .inl h3
    ·refine .inr ⟨ws,e',h3,fun L1 M hL1 hM hb=>?_⟩
     rcases hput _ _ hL1 with ⟨e4,_⟩ | ⟨_,hL1'⟩
     ·exact absurd e4 e1
     ·rcases hput _ _ hM with ⟨e5,_⟩ | ⟨_,hM'⟩
      ·exact absurd e5 e3
      ·exact h4 L1 M hL1' hM' hb
 ·exact⟨h.base.os,h.base.tape,h.base.output,by have:=h.base.size;omega,fun k hk=>(hold k (Nat.lt_of_lt_of_le hk h.base.size)).trans (h.base.block k hk)⟩
 ·rcases hput j M hj with ⟨_,e⟩ | ⟨_,hM⟩
  ·subst e;exact .inr (.inl (by omega))
  ·exact .inl hM
theorem Rel.drew (h:Rel P w0 U S w):Rel P w0 U S w.drew:=
 ⟨h.RH,fun i o hi=>(h.zK i o hi).frame (.refl U) fun _ _=>rfl,h.dom,h.lt,h.loc,h.sep,h.old,h.base.os,h.base.tape,h.base.output,h.base.size,h.base.block⟩
theorem Stp.drew (U:Rn) (w:World):Stp U w U w.drew:=⟨.refl U,⟨Nat.le_refl _,fun _ _ _=>rfl⟩,fun _ _ h=> .inl h⟩
theorem Rel.upd (h:Rel P w0 U S w){S':St}{w':World}{b:Nat} (hb:w0.heap.size<=b) (hin:∃i L,U i=some L/\L.b=b) (hn:S'.n=S.n)
 (hsz:w'.heap.size=w.heap.size) (hother:∀c,c≠b->w'.heap[c]? =w.heap[c]?) (hos:w'.os=w.os) (htape:w'.tape=w.tape) (hout:w'.output=w.output)
 (mT:∀j x,S'.obj j=some x->(x.sN=true/\j<S.n)\/(S.obj j=some x/\∀L,U j=some L->L.b≠b)\/(j<S.n/\vF P w0 U w' j x))
 (hsep:∀i j x y L M,i≠j->S'.obj i=some x->S'.obj j=some y->x.sN=false->y.sN=false->U i=some L->U j=some M->L.b=M.b->Tn i j x y)
 (hold:∀j vs e olds,S'.obj j=some (.cells vs e (.grown olds))->∀i∈olds,i<S.n/\∀o,S'.obj i=some o->Ea U j vs i o):
 Rel P w0 U S' w'/\Stp U w U w':=by
 refine⟨⟨h.RH,fun j x hx=>?_,fun j hj=>h.dom j (by omega),fun j x hx=>?_,fun j L hj=>by rw [hsz];exact h.loc j L hj,hsep,fun j vs e olds hj i hi=>by rw [hn];exact hold j vs e olds hj i hi,?_⟩,.refl U,⟨by omega,fun c _ hc=>?_⟩,fun _ _ h=> .inl h⟩
 ·rcases mT j x hx with ⟨hd,_⟩ | ⟨hx',hL⟩ | ⟨_,hr⟩
  ·cases x<;>simp [gF.sN]at hd;trivial
  ·exact(h.zK j x hx').frame (.refl U) fun L hL'=>hother _ (hL L hL')
  ·exact hr
 ·rw [hn]
  rcases mT j x hx with ⟨_,hl⟩ | ⟨hx',_⟩ | ⟨hl,_⟩
  ·exact hl
  ·exact h.lt j x hx'
  ·exact hl
 ·exact⟨hos.trans h.base.os,htape.trans h.base.tape,hout.trans h.base.output,by have:=h.base.size;omega,fun k hk=>(hother k (by omega)).trans (h.base.block k hk)⟩
 ·obtain⟨i,L,hi,e⟩:=hin
  exact hother c (fun e'=>hc i L hi (by omega))
end upd
theorem OQ (s:ByteArray):s.toList=s.data.toList:=by
 have h:∀(n i:Nat) (r:List UInt8),s.size-i=n->ByteArray.toList.loop s i r=r.reverse++s.data.toList.drop i:=by
  intro n;induction n with
  | zero=>
   intro i r hn;unfold ByteArray.toList.loop;have:¬i<s.size:=by omega
   rw [if_neg this,List.drop_eq_nil_of_le (by show s.data.toList.length<=i;have:s.size=s.data.toList.length:=rfl;omega),List.append_nil]
  | succ n ih=>
   intro i r hn;unfold ByteArray.toList.loop;have hi:i<s.size:=by omega
   rw [if_pos hi,ih (i+1) _ (by omega)];have hl:i<s.data.toList.length:=hi;rw [List.drop_eq_getElem_cons hl];have e:s.data[i]! =s.data.toList[i]:=by rw [getElem!_pos s.data i hi];rfl
   simp [ByteArray.get!,e]
 have:=h s.size 0 [] (by omega);simpa [ByteArray.toList]using this
section num
variable{K:Value->Bool}
theorem zP (x y:Int):WJ x y=decide (x<y):=by
 cases x<;>cases y<;>simp only [WJ,Nat.blt]<;>(rw [Bool.eq_iff_iff];simp only [decide_eq_true_eq,Nat.ble_eq];(try simp);omega)
theorem qL (x y:Int):RX x y=(x==y):=by
 cases x<;>cases y<;>simp only [RX]<;>(rw [Bool.eq_iff_iff];simp only [Nat.beq_eq,beq_iff_eq];(try simp);try omega)
theorem zM{j k:IntKind} (h:vA j k=true):j=k:=by cases j<;>cases k<;>first | rfl | (simp [vA]at h)
theorem wrap_in (k:IntKind) (n:Int) (h0:k.min<=n) (h1:n<=k.max):k.wrap n=n:=by
 cases k<;>simp [IntKind.min,IntKind.max,IntKind.bits,IntKind.signed]at h0 h1<;>simp [IntKind.wrap,IntKind.bits,IntKind.signed]<;>omega
theorem LZ (k:IntKind) (n:Int):kC k n=k.wrap n:=by
 have hb:∀m c:Nat,Nat.blt m c=true->m<c:=fun m c h=>Nat.le_of_ble_eq_true h;have e1:IntKind.i64.min= -9223372036854775808:=by decide
 have e2:IntKind.i64.max=9223372036854775807:=by decide
 have e3:IntKind.u64.min=0:=by decide
 have e4:IntKind.u64.max=18446744073709551615:=by decide
 have e5:IntKind.u8.min=0:=by decide
 have e6:IntKind.u8.max=255:=by decide
 cases k
 case i64=>
  cases n with
  | ofNat m=>
   unfold kC;dsimp only;split
   ·rename_i h;have:=hb _ _ h;exact(wrap_in .i64 (m:Int) (by omega) (by omega)).symm
   ·rfl
  | negSucc m=>
   unfold kC;dsimp only;split
   ·rename_i h;have:=hb _ _ h;exact(wrap_in .i64 (Int.negSucc m) (by omega) (by omega)).symm
   ·rfl
 case u64=>
  cases n with
  | ofNat m=>
   unfold kC;dsimp only;split
   ·rename_i h;have:=hb _ _ h;exact(wrap_in .u64 (m:Int) (by omega) (by omega)).symm
   ·rfl
  | negSucc m=>rfl
 case u8=>
  cases n with
  | ofNat m=>
   unfold kC;dsimp only;split
   ·rename_i h;have:=hb _ _ h;exact(wrap_in .u8 (m:Int) (by omega) (by omega)).symm
   ·rfl
  | negSucc m=>rfl
 all_goals rfl
theorem Ae (k:IntKind) (n:Int):DE k n K=K (.int k (k.wrap n)):=by simp [DE,nC,LZ]
theorem pK (b:Bool):lY b K=K (.bool b):=by simp [lY,lT]
theorem WW{op:BinOp}{k:IntKind}{x y:Int} (h:DF op k x y K=true):
 ∃v,K v=true/\bH v=true/\op≠ .shl/\op≠ .shr/\∀(P:Program) (t:TypeId) (w:World),(binOp op t (.int k x) (.int k y)).run P w= .ok v w:=by
 have ea:∀a b:Int,Int.add a b=a+b:=fun _ _=>rfl;have es:∀a b:Int,Int.sub a b=a-b:=fun _ _=>rfl;have em:∀a b:Int,Int.mul a b=a*b:=fun _ _=>rfl;cases op<;>simp only [DF,Ae,pK,nC,zP,qL,ea,es,em]at h
 case quo=>
  split at h
  ·cases h
  ·rename_i hy
   have hy':y≠0:=by simpa using hy
   exact⟨_,h,rfl,by simp,by simp,fun P t w=>by simp [binOp,Op.intDiv,hy']⟩
 case rem=>
  split at h
  ·cases h
  ·rename_i hy
   have hy':y≠0:=by simpa using hy
   exact⟨_,h,rfl,by simp,by simp,fun P t w=>by simp [binOp,Op.intDiv,hy']⟩
 all_goals first
  | cases h;done
  | exact⟨_,h,rfl,by simp,by simp,fun P t w=>by first | (simp [binOp,Op.intArith,Op.intBits,Op.intCmp,bne];done) | (simp [binOp,Op.intCmp];rw [Bool.eq_iff_iff];simp)⟩
theorem ML{op:BinOp}{k k':IntKind}{x y:Int} (h:KD op k x y K=true):
 ∃v,K v=true/\bH v=true/\∀(P:Program) (t:TypeId) (w:World),(binOp op t (.int k x) (.int k' y)).run P w= .ok v w:=by
 unfold KD at h;rw [zP]at h;split at h
 ·cases h
 ·rename_i hy
  have hy':¬y<0:=by simpa using hy
  cases op<;>simp only [Ae,nC]at h<;>first
   | cases h;done
   | exact⟨_,h,rfl,fun P t w=>by simp [binOp,Op.shift,hy']⟩
end num
section str
variable{K:Value->Bool}
theorem HQ (a b:UInt8):Nat.beq a.toNat b.toNat=true↔a=b:=by
 rw [Nat.beq_eq];exact⟨fun h=>UInt8.toNat_inj.1 h,fun h=>by rw [h]⟩
theorem yJ (a b:List UInt8):RD a b=(a==b):=by
 induction a generalizing b with
 | nil=>cases b<;>rfl
 | cons x a ih=>
  cases b with
  | nil=>rfl
  | cons y b=>
   show(match Nat.beq x.toNat y.toNat with | true=>RD a b | false=>false)=_;cases h:Nat.beq x.toNat y.toNat with
   | true=>simp only [ih];have:=(HQ x y).1 h;subst this;simp
   | false=>
    have:x≠y:=fun e=>by rw [(HQ x y).2 e]at h;cases h
    simp [this]
theorem Md (a b:List UInt8):Oq a b=Op.bytesLess a b:=by
 induction a generalizing b with
 | nil=>cases b<;>rfl
 | cons x a ih=>
  cases b with
  | nil=>rfl
  | cons y b=>
   show(match Nat.blt x.toNat y.toNat with | true=>true | false=>match Nat.beq x.toNat y.toNat with | true=>Oq a b | false=>false)=_;simp only [Op.bytesLess];cases h:Nat.blt x.toNat y.toNat with
   | true=>
    have:x<y:=by rw [UInt8.lt_iff_toNat_lt];have:=Nat.le_of_ble_eq_true h;omega
    simp [this]
   | false=>
    have:¬x<y:=by
     rw [UInt8.lt_iff_toNat_lt];intro hh;have:Nat.blt x.toNat y.toNat=true:=Nat.ble_eq_true_of_le hh;rw [this]at h;cases h
    cases h2:Nat.beq x.toNat y.toNat with
    | true=>have e:=(HQ x y).1 h2;subst e;simp [ih]
    | false=>
     have e:x≠y:=fun e=>by rw [(HQ x y).2 e]at h2;cases h2
     simp [this,e]
theorem Pf (a b:ByteArray):a++b=⟨⟨a.data.toList++b.data.toList⟩⟩:=by
 apply ByteArray.ext;apply Array.toList_inj.1;simp
theorem WX{op:BinOp}{x y:ByteArray} (h:ZE op x y K=true):
 ∃v,K v=true/\bH v=true/\∀(P:Program) (t:TypeId) (w:World),(binOp op t (.string x) (.string y)).run P w= .ok v w:=by
 cases op<;>simp only [ZE,pK,yJ,Md]at h
 case add=>
  simp only [iW]at h;split at h
  ·rename_i hb
   rw [jJ]at h;have hlt:x.size+y.size<9223372036854775808:=by have:=Nat.le_of_ble_eq_true hb;have e1:x.size=x.data.toList.length:=rfl;have e2:y.size=y.data.toList.length:=rfl;omega
   refine⟨_,h,rfl,fun P t w=>?_⟩;simp [binOp,Op.stringOp,Pf];omega
  ·cases h
 all_goals first
  | cases h;done
  | exact⟨_,h,rfl,fun P t w=>by simp [binOp,Op.stringOp,OQ]⟩
end str
theorem nE (b off n:Nat):(⟨b,off,none⟩:Addr).add n=⟨b,off+n,none⟩:=by
 unfold Addr.add;split
 ·rename_i h;subst h;rfl
 ·rfl
section run
variable{P:Program}{w:World}
theorem run_loadCellsFrom (a:Addr):∀(m:List Value) (i:Nat) (acc:Array Value),(∀(j:Nat) (v:Value),m[j]? =some v->w.cell? (a.add (i+j))=some v)->
 (loadCellsFrom a i m.length acc).run P w= .ok (acc++m.toArray) w:=by
 intro m;induction m with
 | nil=>intro i acc _;simp [loadCellsFrom]
 | cons v m ih=>
  intro i acc h;have h0:=h 0 v rfl;rw [Nat.add_zero]at h0
  have h1:=ih (i+1) (acc.push v) fun j x hj=>by
   have:=h (j+1) x (by simpa using hj)
   rwa [show i+(j+1)=i+1+j by omega]at this
  simp [loadCellsFrom,h0,h1]
theorem run_loadCells (a:Addr) (m:List Value){n:Nat} (hn:m.length=n) (h:∀(j:Nat) (v:Value),m[j]? =some v->w.cell? (a.add j)=some v):
 (loadCells a n).run P w= .ok ⟨m⟩ w:=by
 subst hn;have:=run_loadCellsFrom (P:=P) a m 0 #[] (by simpa using h);simpa [loadCells]using this
theorem Ey{b off:Nat}{cs:Array Value}{t:TypeId}{fz:Nat×Nat} (h:w.heap[b]? =some (.cells cs t fz)) (v:Value):
 w.setCell ⟨b,off,none⟩ v=w.putObj b (.cells (cs.setIfInBounds off v) t fz):=by
 unfold World.setCell World.putObj
 congr 1
 apply Array.ext_getElem?;intro k;rw [Array.getElem?_modify,Array.getElem?_setIfInBounds];by_cases e:b=k
 ·subst e
  obtain⟨hlt,hb⟩:=Array.getElem?_eq_some_iff.1 h;simp [hb,hlt]
 ·simp [e]
theorem WZ (b:Nat) (x y:Obj):(w.putObj b x).putObj b y=w.putObj b y:=by
 unfold World.putObj
 congr 1
 apply Array.ext_getElem?;intro k;simp only [Array.getElem?_setIfInBounds,Array.size_setIfInBounds];by_cases e:b=k<;>simp [e]
theorem GJ{b:Nat}{x:Obj} (h:w.heap[b]? =some x):w.putObj b x=w:=by
 unfold World.putObj
 have:w.heap.setIfInBounds b x=w.heap:=by
  apply Array.ext_getElem?;intro k;rw [Array.getElem?_setIfInBounds];by_cases e:b=k
  ·subst e
   obtain⟨hlt,hb⟩:=Array.getElem?_eq_some_iff.1 h;simp [hb,hlt]
  ·simp [e]
 rw [this]
theorem DO{b:Nat}{x y:Obj} (h:w.heap[b]? =some y):(w.putObj b x).heap[b]? =some x:=World.putObj_heap_same (Array.getElem?_eq_some_iff.1 h).1
theorem qX{b c:Nat}{x:Obj} (h:c≠b):(w.putObj b x).heap[c]? =w.heap[c]? :=World.putObj_heap_other h
theorem putObj_size (b:Nat) (x:Obj):(w.putObj b x).heap.size=w.heap.size:=by simp [World.putObj]
theorem tO:∀(new:List Value) (w:World) (b off i:Nat) (cs:Array Value) (t:TypeId) (fz:Nat×Nat),w.heap[b]? =some (.cells cs t fz)->off+i+new.length<=cs.size->
 (∀x,off+i<=x->x<off+i+new.length->¬(fz.1<=x/\x<fz.2))->(∀v∈new,v.oneCell'=true)->
 (storeCells ⟨b,off,none⟩ new i).run P w= .ok () (w.putObj b (.cells ⟨splice (off+i) new cs.toList⟩ t fz)):=by
 intro new;induction new with
 | nil=>
  intro w b off i cs t fz h hs _ _;have e:splice (off+i) [] cs.toList=cs.toList:=by simp [splice]
  rw [e];simp [storeCells,GJ h]
 | cons v new ih=>
  intro w b off i cs t fz h hs hfz h1;have hlt:off+i<cs.size:=by simp at hs;omega
  have hc:w.cell? ⟨b,off+i,none⟩=some cs[off+i]:=by simp [World.cell?,h,hlt]
  have hf:w.frozen? ⟨b,off+i,none⟩=false:=by
   have:=hfz (off+i) (Nat.le_refl _) (by simp);simp only [World.frozen?,h];simpa using this
  have hrun:(store (⟨b,off+i,none⟩:Addr) v).run P w= .ok () (w.putObj b (.cells (cs.setIfInBounds (off+i) v) t fz)):=by
   rw [run_store P w _ v .plain (h1 v (by simp)),hc,hf,Ey h];rfl
  have hih:=ih (w.putObj b (.cells (cs.setIfInBounds (off+i) v) t fz)) b off (i+1) (cs.setIfInBounds (off+i) v) t fz (DO h)
   (by simp at hs ⊢;omega) (fun x hx hy=>hfz x (by omega) (by simp;omega)) (fun u hu=>h1 u (by simp [hu]))
  have es:splice (off+(i+1)) new (cs.setIfInBounds (off+i) v).toList=splice (off+i) (v::new) cs.toList:=by
   apply List.ext_getElem?;intro j;have hl:cs.toList.length=cs.size:=rfl;rw [nS _ _ _ (by simp at hs ⊢;omega),nS _ _ _ (by simp at hs ⊢;omega)];simp only [Array.toList_setIfInBounds,List.length_cons];by_cases h2:j=off+i
   ·subst h2
    rw [if_neg (by omega),if_pos (by omega),Nat.sub_self];simp [hlt]
   ·by_cases h3:off+(i+1)<=j/\j<off+(i+1)+new.length
    ·rw [if_pos h3,if_pos (by omega)]
     obtain⟨q,rfl⟩:∃q,j=off+i+(q+1):=⟨j-(off+i+1),by omega⟩;rw [show off+i+(q+1)-(off+(i+1))=q by omega,show off+i+(q+1)-(off+i)=q+1 by omega];simp
    ·rw [if_neg h3,if_neg (by omega),List.getElem?_set_ne (by omega)]
  simp only [storeCells,nE];rw [Sem.run_bind,hrun,Result.andThen_ok,hih,WZ,es]
end run
section mem
variable{P:Program}{w0:World}{U:Rn}{S:St}{w:World}
theorem Rel.cells (h:Rel P w0 U S w){i:Nat}{vs:List Value}{e:TypeId}{k:CK} (ho:S.obj i=some (.cells vs e k)){L:Loc} (hL:U i=some L):
 ∃cs t fz,w.heap[L.b]? =some (.cells cs t fz)/\(∀(j:Nat) (v:Value),vs[j]? =some v->∃v',cs[L.s+j]? =some v'/\VR U v v')/\ZY P w0 L cs vs.length fz e t k:=by
 obtain⟨M,cs,t,fz,h1,h2,h3,h4⟩:=h.zK i _ ho;rw [hL]at h1;injection h1 with h1;subst h1;exact⟨cs,t,fz,h2,h3,h4⟩
theorem cell_of{b:Nat}{cs:Array Value}{t:TypeId}{fz:Nat×Nat} (h:w.heap[b]? =some (.cells cs t fz)){j:Nat}{v:Value} (hj:cs[j]? =some v):w.cell? ⟨b,j,none⟩=some v:=by
 simp [World.cell?,h,hj]
theorem Rel.zB (h:Rel P w0 U S w){i:Nat}{vs:List Value}{e:TypeId}{k:CK} (ho:S.obj i=some (.cells vs e k)){L:Loc} (hL:U i=some L){off n:Nat} (hn:off+n<=vs.length):
 ∃l',jP U ((vs.drop off).take n) l'/\l'.length=n/\∀(j:Nat) (v:Value),l'[j]? =some v->w.cell? ((⟨L.b,L.s+off,none⟩:Addr).add j)=some v:=by
 obtain⟨cs,t,fz,h2,h3,_⟩:=h.cells ho hL;refine⟨(List.range n).map fun j=>cs.getD (L.s+(off+j)) undef,⟨by simp;omega,fun j v v' a b=>?_⟩,by simp,fun j v hj=>?_⟩
 ·rw [List.getElem?_take]at a
  split at a
  ·rename_i hj
   rw [List.getElem?_drop]at a;obtain⟨u,hu,hr⟩:=h3 _ v a;simp [hj]at b;have:cs.getD (L.s+(off+j)) undef=u:=by simp [Array.getD_eq_getD_getElem?,hu]
   simp [Array.getD_eq_getD_getElem?]at this;rw [<-b,this];exact hr
  ·cases a
 ·have hj':j<n:=by have:=(List.getElem?_eq_some_iff.1 hj).1;simpa using this
  simp [hj']at hj;have hlt:off+j<vs.length:=by omega
  obtain⟨u,hu,_⟩:=h3 (off+j) vs[off+j] (List.getElem?_eq_getElem hlt);rw [nE,show L.s+off+j=L.s+(off+j)by omega];rw [cell_of h2 hu]
  congr 1
  rw [<-hj];simp [hu]
theorem Rel.TR (h:Rel P w0 U S w){i:Nat}{vs:List Value}{e:TypeId}{k:CK} (ho:S.obj i=some (.cells vs e k)){L:Loc} (hL:U i=some L){o:Nat}{v:Value} (hv:vs[o]? =some v):
 ∃v',w.cell? ⟨L.b,L.s+o,none⟩=some v'/\VR U v v':=by
 obtain⟨cs,t,fz,h2,h3,_⟩:=h.cells ho hL;obtain⟨u,hu,hr⟩:=h3 o v hv;exact⟨u,cell_of h2 hu,hr⟩
theorem zJ{t:TypeId}{b:Bool} (h:qI P t=some b) (w:World):(isAgg t).run P w= .ok b w:=by
 unfold qI at h;cases hu:P.underlying t with
 | none=>simp [hu]at h
 | some d=>
  simp [hu]at h;simp only [isAgg,Sem.run_bind,run_underlying hu,Result.andThen_ok];subst h;cases d<;>rfl
theorem gK{t:TypeId}{n:Nat} (h:bQ P t=some n) (w:World):(sizeOf t).run P w= .ok n w:=by
 unfold bQ at h;cases hu:P.info? t with
 | none=>simp [hu]at h
 | some i=>simp [hu]at h;simp [sizeOf,typeInfo,hu,h]
theorem Tj{t:TypeId}{i:TypeInfo} (h:P.info? t=some i) (w:World):(typeInfo t).run P w= .ok i w:=by simp [typeInfo,h]
theorem vE{t:TypeId}{z:List Value} (h:qC P t=some z) (w:World):∃v,(zeroValue t).run P w= .ok v w/\v.cells.toList=z:=by
 unfold qC at h;cases hu:P.info? t with
 | none=>simp [hu]at h
 | some i=>
  cases hz:i.zero with
  | none=>simp [hu,hz]at h
  | some v=>simp [hu,hz]at h;exact⟨v,by simp [zeroValue,typeInfo,hu,hz],h⟩
theorem GB (h:Rel P w0 U S w){t:TypeId}{a a':Value}{K:VK} (hk:CA P t a S K=true) (ha:VR U a a'):
 ∃v v',K v S=true/\VR U v v'/\(Instr.loadAt t a').run P w= .ok v' w:=by
 unfold CA at hk;split at hk
 ·rename_i i o
  cases ha with
  | flat h=>simp [bH]at h
  | ptr hL=>
   rename_i L;split at hk
   ·rename_i hagg
    obtain⟨vs,e,c,ho,hk⟩:=wA hk;obtain⟨v,hv,hk⟩:=CE hk;obtain⟨v',hc,hr⟩:=h.TR ho hL hv;refine⟨v,v',hk,hr,?_⟩;simp [Instr.loadAt,Instr.sureAddr,loadVar,zJ hagg,hc]
   ·rename_i hagg
    split at hk
    ·rename_i n hsz
     obtain⟨vs,e,c,ho,hn,hk⟩:=sM hk;obtain⟨l',hr,hl,hc⟩:=h.zB ho hL hn;refine⟨_,.agg ⟨l'⟩,hk,.ZK hr,?_⟩;simp [Instr.loadAt,Instr.sureAddr,loadVar,zJ hagg,gK hsz,run_loadCells _ l' hl hc]
    ·cases hk
   ·cases hk
 ·cases hk
end mem
section mem
variable{P:Program}{w0:World}{U:Rn}{S:St}{w:World}
theorem YD:∀{new l:List Value},asIs new l=true->(∀v∈new,bH v=true)/\∀(j:Nat) (v:Value),new[j]? =some v->l[j]? =some v:=by
 intro new;induction new with
 | nil=>intro l _;exact⟨by simp,by simp⟩
 | cons a new ih=>
  intro l h;unfold asIs at h;rw [bG]at h;cases l with
  | nil=>cases h
  | cons b t=>
   have h2:(match(generalizing:=false) a,b with
    | .int j x,.int k y=>match vA j k with
     | true=>match RX x y with | true=>asIs new t | false=>false
     | false=>false
    | _,_=>false)=true:=h
   split at h2
   ·split at h2
    ·rename_i hk
     split at h2
     ·rename_i hx
      have e1:=zM hk;rw [qL]at hx;have e2:=eq_of_beq hx;subst e1 e2;have h:asIs new t=true:=h2;obtain⟨i1,i2⟩:=ih h;refine⟨fun v hv=>?_,fun j v hj=>?_⟩
      ·rcases List.mem_cons.1 hv with e | hv
       ·subst e;rfl
       ·exact i1 v hv
      ·cases j with
       | zero=>simpa using hj
       | succ j=>simpa using i2 j v (by simpa using hj)
     ·cases h2
    ·cases h2
   ·cases h2
theorem tN (h:Rel P w0 U S w){i off:Nat}{new new':List Value}{k:St->Bool} (hk:oW S i off new k=true){L:Loc} (hL:U i=some L)
 (hn:jP U new new') (h1:∀v∈new',v.oneCell'=true):
 ∃S' w',k S'=true/\Rel P w0 U S' w'/\Stp U w U w'/\(storeCells ⟨L.b,L.s+off,none⟩ new').run P w= .ok () w':=by
 obtain⟨vs,e,c,ho,hk⟩:=wA hk;obtain⟨cs,t,fz,hb,hcell,hkind⟩:=h.cells ho hL
 have key:∀(S':St) (kd:CK) (olds:List Nat),S'.n=S.n->(∀j,S'.obj j=if j=i then some (.cells (splice off new vs) e kd)else if j∈olds then some .dead else S.obj j)->
  off+new.length<=vs.length->w0.heap.size<=L.b->TA cs.size fz->(gF.cells vs e c).reads=false->(∀l,kd= .grown l->l=[])->(gF.cells vs e c).olds=olds->(gF.cells (splice off new vs) e kd).reads=false->
  (∀j∈olds,j<S.n)->
  (∀cs':Array Value,cs'.size=cs.size->ZY P w0 L cs' vs.length fz e t kd)->
  Rel P w0 U S' (w.putObj L.b (.cells ⟨splice (L.s+off) new' cs.toList⟩ t fz))/\Stp U w U (w.putObj L.b (.cells ⟨splice (L.s+off) new' cs.toList⟩ t fz))/\
   (storeCells ⟨L.b,L.s+off,none⟩ new').run P w= .ok () (w.putObj L.b (.cells ⟨splice (L.s+off) new' cs.toList⟩ t fz)):=by
  intro S' kd olds hSn mT hlen hB hth hreads hkd holds aGQ aCZ hKR
  have hvl:∀j,j<vs.length->L.s+j<cs.size:=fun j hj=>by
   obtain⟨v',hv',_⟩:=hcell j vs[j] (List.getElem?_eq_getElem hj);exact(Array.getElem?_eq_some_iff.1 hv').1
  have hfit:new.length=0\/L.s+off+new'.length<=cs.size:=by
   rcases Nat.eq_zero_or_pos new.length with hz | hz
   ·exact .inl hz
   ·right
    have:=hvl (off+new.length-1) (by omega);rw [<-hn.1];omega
  have hcs:cs.toList.length=cs.size:=rfl
  have hsz:(⟨splice (L.s+off) new' cs.toList⟩:Array Value).size=cs.size:=by
   rcases hfit with hz | hz
   ·have:new'=[]:=List.eq_nil_of_length_eq_zero (by rw [<-hn.1];exact hz)
    subst this;simp [splice]
   ·show(splice (L.s+off) new' cs.toList).length=_
    rw [vR _ _ _ (by omega)];exact hcs
  have hget:∀j:Nat,(⟨splice (L.s+off) new' cs.toList⟩:Array Value)[j]? =if L.s+off<=j/\j<L.s+off+new'.length then new'[j-(L.s+off)]? else cs[j]? :=by
   intro j;rcases hfit with hz | hz
   ·have:new'=[]:=List.eq_nil_of_length_eq_zero (by rw [<-hn.1];exact hz)
    subst this;rw [if_neg (by simp)];simp [splice]
   ·have:=nS (L.s+off) new' cs.toList (by omega) j
    simpa using this
  have hnew:vF P w0 U (w.putObj L.b (.cells ⟨splice (L.s+off) new' cs.toList⟩ t fz)) i (.cells (splice off new vs) e kd):=by
   refine⟨L,_,t,fz,hL,DO hb,fun j v hj=>?_,by rw [vR _ _ _ hlen];exact hKR _ hsz⟩;rw [nS _ _ _ hlen]at hj;rw [hget];split at hj
   ·rename_i hr
    rw [if_pos (by have:=hn.1;omega)];obtain⟨v',hv',hr'⟩:=hn.get hj;exact⟨v',by rw [show L.s+j-(L.s+off)=j-off by omega];exact hv',hr'⟩
   ·rename_i hr
    rw [if_neg (by have:=hn.1;omega)];exact hcell j v hj
  have Is:∀j x M,j≠i->j∉olds->S.obj j=some x->x.sN=false->U j=some M->M.b≠L.b:=by
   intro j x M hj hjo hx hd hM hb';rcases h.sep i j _ x L M (Ne.symm hj) ho hx rfl hd hL hM hb'.symm with ⟨hr,_⟩ | hs | hs
   ·rw [hreads]at hr;cases hr
   ·rw [holds]at hs;exact hjo hs
   ·cases x with
    | cells ws e' kk=>
     cases kk with
     | grown l=>
      obtain⟨_,h2⟩:=h.old j ws e' l hx i hs;rcases h2 _ ho with h3 | ⟨_,_,h3,_⟩
      ·cases h3
      ·injection h3 with _ _ h3;subst h3;simp [gF.reads]at hreads
     | _=>simp [gF.olds]at hs
    | _=>simp [gF.olds]at hs
  have hcase:∀j x,S'.obj j=some x->(j=i/\x= .cells (splice off new vs) e kd)\/(j≠i/\j∈olds/\x= .dead)\/(j≠i/\j∉olds/\S.obj j=some x):=by
   intro j x hx;rw [mT]at hx;by_cases e1:j=i
   ·rw [if_pos e1]at hx;injection hx with hx;exact .inl ⟨e1,hx.symm⟩
   ·rw [if_neg e1]at hx
    by_cases e2:j∈olds
    ·rw [if_pos e2]at hx;injection hx with hx;exact .inr (.inl ⟨e1,e2,hx.symm⟩)
    ·rw [if_neg e2]at hx;exact .inr (.inr ⟨e1,e2,hx⟩)
  have hrel:=h.upd (S':=S') (w':=w.putObj L.b (.cells ⟨splice (L.s+off) new' cs.toList⟩ t fz)) (b:=L.b) hB ⟨i,L,hL,rfl⟩ hSn (putObj_size _ _) (fun c hc=>qX hc) rfl rfl rfl
   (fun j x hx=>by
    rcases hcase j x hx with ⟨e1,e2⟩ | ⟨e1,e2,e3⟩ | ⟨e1,e2,hx'⟩
    ·subst e1 e2;exact .inr (.inr ⟨h.lt _ _ ho,hnew⟩)
    ·subst e3;exact .inl ⟨rfl,aCZ _ e2⟩
    ·cases hd:x.sN with
     | true=>exact .inl ⟨rfl,h.lt _ _ hx'⟩
     | false=>exact .inr (.inl ⟨hx',fun M hM=>Is j x M e1 e2 hx' hd hM⟩))
   (fun p q x y M N hpq hx hy hdx hdy hM hN RG=>by
    rcases hcase p x hx with ⟨e1,e2⟩ | ⟨_,_,e3⟩ | ⟨e1,e2,hx'⟩
    ·rcases hcase q y hy with ⟨f1,_⟩ | ⟨_,_,f3⟩ | ⟨f1,f2,hy'⟩
     ·exact absurd (e1.trans f1.symm) hpq
     ·subst f3;cases hdy
     ·subst e1;rw [hL]at hM;injection hM with hM;subst hM
      exact absurd RG.symm (Is q y N f1 f2 hy' hdy hN)
    ·subst e3;cases hdx
    ·rcases hcase q y hy with ⟨f1,_⟩ | ⟨_,_,f3⟩ | ⟨f1,f2,hy'⟩
     ·subst f1;rw [hL]at hN;injection hN with hN;subst hN
      exact absurd RG (Is p x M e1 e2 hx' hdx hM)
     ·subst f3;cases hdy
     ·exact h.sep p q x y M N hpq hx' hy' hdx hdy hM hN RG)
   (fun j ws e' l hj q hq=>by
    rcases hcase j _ hj with ⟨e1,e2⟩ | ⟨_,_,e3⟩ | ⟨e1,e2,hj'⟩
    ·injection e2 with _ _ e2
     have:=hkd l e2.symm;subst this;cases hq
    ·cases e3
    ·obtain⟨g1,g2⟩:=h.old j ws e' l hj' q hq
     refine⟨g1,fun o hqo=>?_⟩;rcases hcase q o hqo with ⟨f1,f2⟩ | ⟨_,_,f3⟩ | ⟨_,_,hq'⟩
     ·subst f1
      rcases g2 _ ho with g3 | ⟨_,_,g3,_⟩
      ·cases g3
      ·injection g3 with _ _ g3;subst g3;simp [gF.reads]at hreads
     ·exact .inl f3
     ·exact g2 o hq')
  refine⟨hrel.1,hrel.2,?_⟩;rcases hfit with hz | hz
  ·have:new'=[]:=List.eq_nil_of_length_eq_zero (by rw [<-hn.1];exact hz)
   subst this;have e1:splice (L.s+off) [] cs.toList=cs.toList:=by simp [splice]
   rw [e1,GJ hb];simp [storeCells]
  ·have:=tO (P:=P) new' w L.b (L.s+off) 0 cs t fz hb (by omega) (fun x hx hy=>hth x (by omega)) h1
   simpa using this
 have aFT:asIs new (vs.drop off)=true->k S=true->(∀j,j<vs.length->¬(fz.1<=L.s+j/\L.s+j<fz.2))->
  ∃S' w',k S'=true/\Rel P w0 U S' w'/\Stp U w U w'/\(storeCells ⟨L.b,L.s+off,none⟩ new').run P w= .ok () w':=by
  intro hs hk2 hth;obtain⟨s1,s2⟩:=YD hs
  have hnn:new'=new:=by
   apply List.ext_getElem?;intro j;cases hj:new[j]? with
   | none=>exact hn.get_none hj
   | some v=>
    obtain⟨v',hv',hr⟩:=hn.get hj;rw [hv',hr.of_flat (s1 v (List.mem_of_getElem? hj))]
  subst hnn
  have hcur:∀j v,new'[j]? =some v->cs[L.s+off+j]? =some v:=fun j v hj=>by
   obtain⟨v',hv',hr⟩:=hcell (off+j) v (by have:=s2 j v hj;rw [List.getElem?_drop]at this;exact this);rw [<-Nat.add_assoc]at hv';rw [hv',hr.of_flat (s1 v (List.mem_of_getElem? hj))]
  have aG1:∀j,j<new'.length->off+j<vs.length:=fun j hj=>by
   have:=s2 j new'[j] (List.getElem?_eq_getElem hj);rw [List.getElem?_drop]at this;exact(List.getElem?_eq_some_iff.1 this).1
  rcases Nat.eq_zero_or_pos new'.length with hz | hz
  ·have:new'=[]:=List.eq_nil_of_length_eq_zero hz
   subst this;exact⟨S,w,hk2,h,.refl U w,by simp [storeCells]⟩
  ·have hle:L.s+off+new'.length<=cs.size:=by
    have:=hcur (new'.length-1) _ (List.getElem?_eq_getElem (by omega));have:=(Array.getElem?_eq_some_iff.1 this).1;omega
   have hrun:=tO (P:=P) new' w L.b (L.s+off) 0 cs t fz hb (by omega) (fun x hx hy=>by
    have:=hth (x-L.s) (by have:=aG1 (x-L.s-off) (by omega);omega)
    rwa [show L.s+(x-L.s)=x by omega]at this) h1
   have hsp:splice (L.s+off) new' cs.toList=cs.toList:=by
    apply List.ext_getElem?;intro j;rw [nS _ _ _ (by simpa using hle)];split
    ·rename_i hj
     rw [List.getElem?_eq_getElem (by omega)];have:=hcur (j-(L.s+off)) _ (List.getElem?_eq_getElem (by omega));rw [show L.s+off+(j-(L.s+off))=j by omega]at this;simpa using this.symm
    ·rfl
   refine⟨S,w,hk2,h,.refl U w,?_⟩;have e:w.putObj L.b (.cells ⟨splice (L.s+off) new' cs.toList⟩ t fz)=w:=by rw [hsp];exact GJ hb
   simpa [e]using hrun
 cases c with
 | exact=>
  simp only [sK]at hk;split at hk
  ·rename_i hlen
   rw [fS]at hk;obtain⟨g1,g2,g3,g4⟩:=hkind
   obtain⟨r1,r2,r3⟩:=key (S.set i (.cells (splice off new vs) e .exact)) .exact [] rfl (fun j=>by rw [vT];simp) hlen g1 g4.1 rfl (by simp) rfl rfl (by simp)
    (fun cs' hcs'=>⟨g1,g2,by omega,by rw [hcs'];exact g4⟩)
   exact⟨_,_,hk,r1,r2,r3⟩
  ·cases hk
 | grown olds=>
  have hk2:(AY off vs fun l=>match asIs new l with | true=>k S | false=>oE off new vs fun vs=>XQ olds S.h fun h=>IP (.cells vs e (.grown [])) (Nat.succ i) h i fun h=>k ⟨h,S.n⟩)=true:=hk;clear hk;rw [tM]at hk2;split at hk2
  ·cases hs:asIs new (vs.drop off)with
   | true=>
    rw [hs]at hk2;obtain⟨g1,g2,g3,g4⟩:=hkind;refine aFT hs hk2 fun j hj=>g2 _ ?_;obtain⟨v',hv',_⟩:=hcell j _ (List.getElem?_eq_getElem hj);exact(Array.getElem?_eq_some_iff.1 hv').1
   | false=>
    rw [hs]at hk2;have hk:=hk2;clear hk2;simp only [sK]at hk;split at hk
    ·rename_i hlen
     rw [Ec,DQ]at hk;obtain⟨g1,g2,g3,g4⟩:=hkind
     obtain⟨r1,r2,r3⟩:=key ⟨Tr.yF (gF.cells (splice off new vs) e (CK.grown [])) i.succ (olds.foldl (fun h i=>h.put i gF.dead) S.h) i,S.n⟩ (.grown []) olds rfl (fun j=>by
      show Tr.get (Tr.yF _ (i+1) _ i) j=_;rw [TC _ _ _ _ _ (Nat.lt_succ_self i),Ed];rfl) hlen g1 g2 rfl (fun l hl=>by injection hl with hl;exact hl.symm) rfl rfl
      (fun j hj=>(h.old i vs e olds ho j hj).1) (fun cs' hcs'=>⟨g1,by rw [hcs'];exact g2,by rw [hcs'];exact g3,g4⟩)
     exact⟨_,_,hk,r1,r2,r3⟩
    ·cases hk
  ·cases hk2
 | rs=>
  have hk2:(AY off vs fun l=>match asIs new l with | true=>k S | false=>false)=true:=hk;rw [tM]at hk2;split at hk2
  ·cases hs:asIs new (vs.drop off)with
   | true=>rw [hs]at hk2;exact aFT hs hk2 hkind.2
   | false=>rw [hs]at hk2;cases hk2
  ·cases hk2
 | stale=>cases hk
 | ro=>cases hk
theorem vQ{v:Value}{k:List Value->Bool} (hk:lZ v k=true){v':Value} (hv:VR U v v'):
 ∃cs,k cs=true/\(∀x∈cs,oneCell x=true)/\jP U cs v'.cells.toList/\cs=v.cells.toList:=by
 unfold lZ at hk;split at hk
 ·rename_i cs
  rw [mQ]at hk;split at hk
  ·rename_i ha
   obtain⟨a',rfl,hl⟩:=hv.BA;exact⟨_,hk,List.all_eq_true.1 ha,hl,rfl⟩
  ·cases hk
 ·cases hk
 ·rename_i h1 h2
  have hc:v.cells= #[v]:=by cases v<;>first | rfl | exact absurd rfl (h1 _)
  have ho:oneCell v=true:=by cases v<;>first | rfl | exact absurd rfl (h1 _) | exact absurd rfl (h2 _)
  have hc':v'.cells= #[v']:=by have:=hv.oneCell ho;cases v'<;>first | rfl | (simp [Value.oneCell']at this)
  exact⟨_,hk,by simpa using ho,by rw [hc'];exact .cons hv (.nil U),by rw [hc]⟩
theorem MD{l l':List Value} (h:jP U l l') (h1:∀x∈l,oneCell x=true):∀v∈l',v.oneCell'=true:=by
 intro v hv;obtain⟨j,hj⟩:=List.getElem?_of_mem hv;have hlt:j<l.length:=by rw [h.1];exact(List.getElem?_eq_some_iff.1 hj).1
 exact(h.2 j l[j] v (List.getElem?_eq_getElem hlt) hj).oneCell (h1 _ (List.getElem_mem _))
theorem ZU (h:Rel P w0 U S w){t:TypeId}{a a' x x':Value}{k:St->Bool} (hk:KE P t a x S k=true) (ha:VR U a a') (hx:VR U x x'):
 ∃S' w',k S'=true/\Rel P w0 U S' w'/\Stp U w U w'/\(Instr.storeAt t a' x').run P w= .ok () w':=by
 unfold KE at hk;split at hk
 ·rename_i i o
  cases ha with
  | flat h=>simp [bH]at h
  | ptr hL=>
   rename_i L;split at hk
   ·rename_i n hsz
    obtain⟨cs,hk,h1,hcs,_⟩:=vQ hk hx;rw [iW]at hk;split at hk
    ·rename_i hn
     have hn':cs.length=n:=Nat.eq_of_beq_eq_true hn;obtain⟨S',w',hk',r1,r2,r3⟩:=tN h hk hL hcs (MD hcs h1);refine⟨S',w',hk',r1,r2,?_⟩;have hsz':x'.cells.size=n:=by rw [<-hn',hcs.1];rfl
     simp [Instr.storeAt,Instr.sureAddr,storeVar,gK hsz,hsz',r3]
    ·cases hk
   ·cases hk
 ·cases hk
theorem Rel.Ti (h:Rel P w0 U S w){cs cs':List Value} (hcs:jP U cs cs') (t:TypeId) (m:Nat):
 Rel P w0 (U.put S.n ⟨w.heap.size,0,cs'.length,m⟩) (S.new (.cells cs t .exact)) (w.alloc (.cells ⟨cs'⟩ t))/\Stp U w (U.put S.n ⟨w.heap.size,0,cs'.length,m⟩) (w.alloc (.cells ⟨cs'⟩ t)):=by
 refine h.new _ _ _ rfl (fun U' he hU'=>⟨_,⟨cs'⟩,t,(0,0),hU',?_,fun j v hj=>?_,?_⟩) (by simp [gF.olds])
 ·show(w.heap.push _)[w.heap.size]? =_;simp
 ·obtain⟨v',hv',hr⟩:=hcs.get hj
  exact⟨v',by simpa using hv',hr.mono he⟩
 ·exact⟨h.base.size,rfl,hcs.1.symm,fun x _ hx=>by simp at hx,rfl⟩
theorem Rel.Dv (h:Rel P w0 U S w){cs cs' more:List Value} (hcs:jP U cs cs') (e:TypeId){m:Nat} (hm:bQ P e=some m) (fz:Nat×Nat) (hfz:TA (cs'++more).length fz) (olds:List Nat)
 (hold:∀i∈olds,i<S.n/\∀x,S.obj i=some x->x= .dead\/∃ws e,x= .cells ws e .stale):
 Rel P w0 (U.put S.n ⟨w.heap.size,0,(cs'++more).length,m⟩) (S.new (.cells cs e (.grown olds))) (w.alloc (.cells ⟨cs'++more⟩ e fz))/\Stp U w (U.put S.n ⟨w.heap.size,0,(cs'++more).length,m⟩) (w.alloc (.cells ⟨cs'++more⟩ e fz)):=by
 refine h.new _ _ _ rfl (fun U' he hU'=>⟨_,⟨cs'++more⟩,e,fz,hU',?_,fun j v hj=>?_,?_⟩) hold
 ·show(w.heap.push _)[w.heap.size]? =_;simp
 ·obtain⟨v',hv',hr⟩:=hcs.get hj
  refine⟨v',?_,hr.mono he⟩;have hlt:j<cs'.length:=(List.getElem?_eq_some_iff.1 hv').1;have e1:(⟨cs'++more⟩:Array Value)[0+j]? =(cs'++more)[j]? :=by simp
  exact e1.trans (by rw [List.getElem?_append_left hlt];exact hv')
 ·exact⟨h.base.size,hfz,rfl,hm,rfl⟩
end mem
section mem
variable{P:Program}{w0:World}{U:Rn}{S:St}{w:World}
structure sL (P:Program) (U:Rn) (A:aX) (a:Act):Prop where
 tmps:Eg U A.tmps a.tmps.toList
 g:A.g=P.globals.size
theorem aM (h:Rel P w0 U S w){A:aX}{a:Act} (hA:sL P U A a){x:Operand}{k:Value->Bool} (hk:pT A x k=true):∃v,k v=true/\VR U v (a.eval x):=by
 obtain⟨v,hv,h1⟩:=Tp hk;refine⟨v,hv,?_⟩;rcases h1 with ⟨t,rfl,ht⟩ | ⟨rfl,hf⟩ | ⟨g,rfl,hg,rfl⟩ | ⟨f,rfl,rfl⟩
 ·obtain⟨v',hv',hr⟩:=hA.tmps.get ht
  have e:a.tmps.getD t undef=v':=by
   rw [Array.getElem?_toList]at hv';simp [Array.getD_eq_getD_getElem?,hv']
  show VR U v (a.tmps.getD t undef);rw [e];exact hr
 ·exact .lP hf
 ·obtain⟨L,h1,h2,h3⟩:=h.RH g (by rw [<-hA.g];exact hg)
  have:=VR.ptr (o:=0) h1;rw [h2,h3]at this;exact this
 ·exact .func rfl rfl (by simp) (by simp)
theorem sP (h:Rel P w0 U S w){A:aX}{a:Act} (hA:sL P U A a):∀{xs:List Operand} {k:List Value->Bool},IR A xs k=true->∃vs,k vs=true/\jP U vs (xs.map a.eval):=by
 intro xs;induction xs with
 | nil=>intro k hk;exact⟨[],hk,.nil U⟩
 | cons x xs ih=>
  intro k hk;obtain⟨v,hv,hr⟩:=aM h hA (show pT A x (fun v=>IR A xs fun vs=>k (v::vs))=true from hk);obtain⟨vs,hvs,hrs⟩:=ih hv;exact⟨v::vs,hvs,.cons hr hrs⟩
theorem vH (h:Rel P w0 U S w){A:aX}{a:Act} (hA:sL P U A a){x:Option Operand}{k:Option Value->Bool} (hk:KF A x k=true):
 ∃v,k v=true/\(v=none/\x=none\/∃u y,v=some u/\x=some y/\VR U u (a.eval y)):=by
 cases x with
 | none=>exact⟨none,hk,.inl ⟨rfl,rfl⟩⟩
 | some x=>obtain⟨v,hv,hr⟩:=aM h hA (show pT A x (fun v=>k (some v))=true from hk);exact⟨some v,hv,.inr ⟨v,x,rfl,rfl,hr⟩⟩
theorem Ee{A:aX}{a:Act} (hA:sL P U A a){d:Option Tmp}{v v':Value} (hv:VR U v v'){k:aX->Bool} (hk:jO A d v k=true):
 ∃A',k A'=true/\sL P U A' (a.put d v')/\A'.marks=A.marks:=by
 cases d with
 | none=>exact⟨A,hk,hA,rfl⟩
 | some d=>
  obtain⟨hd,hk⟩:=vG (show qH v A.tmps d (fun ts=>k ⟨ts,A.marks,A.g⟩)=true from hk);exact⟨_,hk,⟨by simpa [Act.put]using hA.tmps.set hd hv,hA.g⟩,rfl⟩
theorem sL.mono{U':Rn} (he:Ext U U'){A:aX}{a:Act} (h:sL P U A a):sL P U' A a:=⟨h.tmps.mono he,h.g⟩
theorem XA{t:TypeId}{a b a' b':Value}{k:Bool->Bool} (hk:qD P t a b k=true) (ha:VR U a a') (hb:VR U b b'):
 ∃e,k e=true/\bH a=true/\bH b=true/\nQ P t=true/\∀(d:Nat) (w:World),(Op.equalIn (d+1) t a' b').run P w= .ok e w:=by
 unfold qD at hk;split at hk
 ·rename_i kd hu
  split at hk
  ·rename_i j x l y
   split at hk
   ·rename_i hj
    rw [lT,qL]at hk;have:=zM hj;subst this;rw [ha.of_flat rfl,hb.of_flat rfl];exact⟨_,hk,rfl,rfl,by simp [nQ,hu],fun d w=>run_equalIn_int w d t j kd x y hu⟩
   ·cases hk
  ·cases hk
 ·rename_i hu
  split at hk
  ·rename_i x y
   rw [lT,yJ,<-OQ,<-OQ]at hk;rw [ha.of_flat rfl,hb.of_flat rfl];exact⟨_,hk,rfl,rfl,by simp [nQ,hu],fun d w=>run_equalIn_string w d t x y hu⟩
  ·cases hk
 ·rename_i hu
  split at hk
  ·rename_i x y
   rw [lT]at hk;rw [ha.of_flat rfl,hb.of_flat rfl];exact⟨_,hk,rfl,rfl,by simp [nQ,hu],fun d w=>run_equalIn_bool' w d t x y hu⟩
  ·cases hk
 ·cases hk
theorem Iu{t:TypeId} (h:nQ P t=true):qI P t=some false:=by
 unfold nQ at h;unfold qI;split at h<;>rename_i hu<;>first | (rw [hu];rfl) | cases h
theorem FV{t:TypeId} (h:nQ P t=true){cs:Array Value}{off:Nat}{v:Value} (hv:cs.toList[off]? =some v) (w:World):(part t cs off).run P w= .ok v w:=by
 rw [Array.getElem?_toList]at hv;simp [part,zJ (Iu h),hv]
theorem TS:∀(fs:List Field) (i:Nat) (a b:List Value) (X Y:Array Value) (k:Bool->Bool),qK P i fs=true->CB P fs a b k=true->
 jP U a (X.toList.drop i)->jP U b (Y.toList.drop i)->∃e,k e=true/\∀(d:Nat) (w:World),(Op.eqFields (d+1) X Y fs).run P w= .ok e w:=by
 intro fs;induction fs with
 | nil=>intro i a b X Y k _ hk _ _;exact⟨true,hk,fun d w=>rfl⟩
 | cons f fs ih=>
  intro i a b X Y k hp hk ha hb;simp only [qK,Bool.and_eq_true,beq_iff_eq,bne_iff_ne]at hp;obtain⟨⟨⟨hname,hoff⟩,hpl⟩,hrest⟩:=hp;cases a with
  | nil=>cases hk
  | cons x a=>
   cases b with
   | nil=>cases hk
   | cons y b=>
    have hk':qD P f.type x y (fun e=>match e with | true=>CB P fs a b k | false=>k false)=true:=hk;obtain⟨x',tx,ex,hx,htx⟩:=ha.cC;obtain⟨y',ty,ey,hy,hty⟩:=hb.cC;obtain⟨e,he,_,_,_,hrun⟩:=XA hk' hx hy;have gx:X.toList[i]? =some x':=by have:=congrArg (·[0]?) ex;simpa [List.getElem?_drop]using this
    have gy:Y.toList[i]? =some y':=by have:=congrArg (·[0]?) ey;simpa [List.getElem?_drop]using this
    have dx:X.toList.drop (i+1)=tx:=by have:=congrArg List.tail ex;simpa [List.tail_drop]using this
    have dy:Y.toList.drop (i+1)=ty:=by have:=congrArg List.tail ey;simpa [List.tail_drop]using this
    cases e with
    | false=>
     refine⟨false,he,fun d w=>?_⟩;simp [Op.eqFields,hname,hoff,FV hpl gx,FV hpl gy,hrun]
    | true=>
     obtain⟨e,he,hr⟩:=ih (i+1) a b X Y k hrest he (by rw [dx];exact htx) (by rw [dy];exact hty);refine⟨e,he,fun d w=>?_⟩;simp [Op.eqFields,hname,hoff,FV hpl gx,FV hpl gy,hrun,hr]
theorem vZ{t:TypeId}{fs:List Field} (h:DH P t=some fs):P.underlying t=some (.struct (P.fieldsOf t))/\(P.fieldsOf t).toList=fs/\qK P 0 fs=true/\P.stoodInHeld t=false/\P.eqGuardType P.depth t=false:=by
 unfold DH at h;split at h
 ·rename_i gs hu
  split at h
  ·rename_i hc
   injection h with h;simp only [Bool.and_eq_true,Bool.not_eq_true']at hc;have e:P.fieldsOf t=gs:=by simp [Program.fieldsOf,hu]
   rw [e];exact⟨hu,h,by rw [<-h];exact hc.1.1,hc.1.2,hc.2⟩
  ·cases h
 ·cases h
section aG2
variable (w:World) (d:Nat){t:TypeId}
theorem aG3{e:TypeId} (h:P.underlying t=some (.pointer e)) (a:Addr):(Op.equalIn (d+1) t (.pointer (some a)) (.pointer none)).run P w= .ok false w:=by simp [Op.equalIn,run_underlying h]
theorem aG4{e:TypeId} (h:P.underlying t=some (.pointer e)) (a:Addr):(Op.equalIn (d+1) t (.pointer none) (.pointer (some a))).run P w= .ok false w:=by simp [Op.equalIn,run_underlying h]
theorem aG5{e:TypeId} (h:P.underlying t=some (.pointer e)):(Op.equalIn (d+1) t (.pointer none) (.pointer none)).run P w= .ok true w:=by simp [Op.equalIn,run_underlying h]
theorem aG6{e:TypeId} (h:P.underlying t=some (.slice e)) (a:Addr) (n c m q:Nat):(Op.equalIn (d+1) t (.slice (some a) n c) (.slice none m q)).run P w= .ok false w:=by simp [Op.equalIn,run_underlying h]
theorem aG7{e:TypeId} (h:P.underlying t=some (.slice e)) (a:Addr) (n c m q:Nat):(Op.equalIn (d+1) t (.slice none m q) (.slice (some a) n c)).run P w= .ok false w:=by simp [Op.equalIn,run_underlying h]
theorem aG8{e:TypeId} (h:P.underlying t=some (.slice e)) (n c m q:Nat):(Op.equalIn (d+1) t (.slice none m q) (.slice none n c)).run P w= .ok true w:=by simp [Op.equalIn,run_underlying h]
theorem aG9{e f:TypeId} (h:P.underlying t=some (.map e f)) (a:Nat):(Op.equalIn (d+1) t (.map (some a)) (.map none)).run P w= .ok false w:=by simp [Op.equalIn,run_underlying h]
theorem aHa{e f:TypeId} (h:P.underlying t=some (.map e f)) (a:Nat):(Op.equalIn (d+1) t (.map none) (.map (some a))).run P w= .ok false w:=by simp [Op.equalIn,run_underlying h]
theorem aHb{e f:TypeId} (h:P.underlying t=some (.map e f)):(Op.equalIn (d+1) t (.map none) (.map none)).run P w= .ok true w:=by simp [Op.equalIn,run_underlying h]
theorem aFU{e f:Array TypeId}{v:Bool} (h:P.underlying t=some (.func e f v)) (a:Fn) (x y:Array Value):(Op.equalIn (d+1) t (.func a x y) .nilFunc).run P w= .ok false w:=by simp [Op.equalIn,run_underlying h]
theorem aFV{e f:Array TypeId}{v:Bool} (h:P.underlying t=some (.func e f v)) (a:Fn) (x y:Array Value):(Op.equalIn (d+1) t .nilFunc (.func a x y)).run P w= .ok false w:=by simp [Op.equalIn,run_underlying h]
theorem aFW{e f:Array TypeId}{v:Bool} (h:P.underlying t=some (.func e f v)):(Op.equalIn (d+1) t .nilFunc .nilFunc).run P w= .ok true w:=by simp [Op.equalIn,run_underlying h]
theorem aFX{m:Array (String×TypeId)} (h:P.underlying t=some (.interface m)) (u:TypeId) (x:Value):(Op.equalIn (d+1) t (.iface u x) .nilIface).run P w= .ok false w:=by simp [Op.equalIn,run_underlying h]
theorem aFY{m:Array (String×TypeId)} (h:P.underlying t=some (.interface m)) (u:TypeId) (x:Value):(Op.equalIn (d+1) t .nilIface (.iface u x)).run P w= .ok false w:=by simp [Op.equalIn,run_underlying h]
end aG2
def Look:Value->Value->Prop
 | .pointer (some _),v'=>∃a,v'= .pointer (some a)
 | .slice (some _) _ _,v'=>∃a:Addr×Nat×Nat,v'= .slice (some a.1) a.2.1 a.2.2
 | .map (some _),v'=>∃b,v'= .map (some b)
 | .func _ _ _,v'=>∃a:Fn×Array Value×Array Value,v'= .func a.1 a.2.1 a.2.2
 | .iface t _,v'=>∃u,v'= .iface t u
 | .pointer none,v'=>∃_:Unit,v'= .pointer none
 | .slice none n c,v'=>∃_:Unit,v'= .slice none n c
 | .map none,v'=>∃_:Unit,v'= .map none
 | .nilFunc,v'=>∃_:Unit,v'= .nilFunc
 | .nilIface,v'=>∃_:Unit,v'= .nilIface
 | _,_=>True
theorem VR.look{v v':Value} (h:VR U v v'):Look v v':=by
 cases h with
 | flat h=>
  cases v
  case pointer a=>cases a with | none=>exact⟨(),rfl⟩ | some a=>simp [bH]at h
  case slice a n c=>cases a with | none=>exact⟨(),rfl⟩ | some a=>simp [bH]at h
  case map a=>cases a with | none=>exact⟨(),rfl⟩ | some a=>simp [bH]at h
  case func=>simp [bH]at h
  case iface=>simp [bH]at h
  case nilFunc=>exact⟨(),rfl⟩
  case nilIface=>exact⟨(),rfl⟩
  all_goals trivial
 | ptr _=>exact⟨_,rfl⟩
 | slice _=>exact⟨(_,_,_),rfl⟩
 | mP _ _ _ _ _=>exact⟨(_,_,_),rfl⟩
 | tK=>exact⟨(_,_,_),rfl⟩
 | tL _=>exact⟨(_,_,_),rfl⟩
 | map _=>exact⟨_,rfl⟩
 | func _ _ _ _=>exact⟨(_,_,_),rfl⟩
 | yield _=>exact⟨(_,_,_),rfl⟩
 | meth _=>exact⟨(_,_,_),rfl⟩
 | iface _=>exact⟨_,rfl⟩
 | agg _ _=>trivial
 | tuple _ _=>trivial
theorem DL{t:TypeId}{a b a' b':Value}{k:Bool->Bool} (hk:nR P t a b k=true) (ha:VR U a a') (hb:VR U b b'):
 ∃e,k e=true/\(∀(w:World),(Op.equal t a' b').run P w= .ok e w)/\(∀(op:BinOp) (x y:Operand) (w:World),(eqGuard op t x y a' b').run P w= .ok () w):=by
 have guard:∀(op:BinOp) (x y:Operand) (w:World),(∀xs,a'≠ .agg xs)->(a'= .nilIface->b'≠ .nilIface)->(eqGuard op t x y a' b').run P w= .ok () w:=by
  intro op x y w h1 h2;unfold eqGuard;cases op<;>cases a'<;>cases b'<;>first | rfl | exact absurd rfl (h1 _) | exact absurd rfl (h2 rfl)
 unfold nR at hk;split at hk
 ·rename_i xs ys
  split at hk
  ·rename_i fs hfs
   obtain⟨h1,h2,h3,h4,h5⟩:=vZ hfs;obtain⟨xs',rfl,hx⟩:=ha.BA;obtain⟨ys',rfl,hy⟩:=hb.BA;obtain⟨e,he,hr⟩:=TS fs 0 _ _ xs' ys' k h3 hk (by simpa using hx) (by simpa using hy);refine⟨e,he,fun w=>?_,fun op x y w=>run_eqGuard_agg w op t x y xs' ys' h5⟩;show(Op.equalIn (9999+1) t _ _).run P w=_;rw [run_equalIn_struct w 9999 t xs' ys' h1 h4,h2];exact hr 9998 w
  ·cases hk
 all_goals first
  | cases hk;done
  | (split at hk<;>first
   | cases hk;done
   | (rename_i hu
      rw [lT]at hk;have ea:=ha.of_flat rfl;have eb:=hb.of_flat rfl;rw [ea,eb]at guard;rw [ea,eb];exact⟨_,hk,fun w=>run_equal_bool w t _ _ hu,fun op x y w=>guard op x y w (by simp) (by simp)⟩)
   | (rename_i hu
      obtain⟨_,ea⟩:=ha.look;obtain⟨_,eb⟩:=hb.look;refine⟨_,hk,fun w=>?_,fun op x y w=>guard op x y w ?_ ?_⟩
      ·show(Op.equalIn (9999+1) t _ _).run P w=_
       rw [ea,eb]
       first
        | exact aG3 w 9999 hu _ | exact aG4 w 9999 hu _ | exact aG5 w 9999 hu | exact aG6 w 9999 hu _ _ _ _ _ | exact aG7 w 9999 hu _ _ _ _ _ | exact aG8 w 9999 hu _ _ _ _ | exact aG9 w 9999 hu _ | exact aHa w 9999 hu _
        | exact aHb w 9999 hu | exact aFU w 9999 hu _ _ _ | exact aFV w 9999 hu _ _ _ | exact aFW w 9999 hu | exact aFX w 9999 hu _ _ | exact aFY w 9999 hu _ _
      ·intro xs e;rw [ea]at e;cases e
      ·intro e e2;rw [ea]at e;rw [eb]at e2;first | (cases e;done) | (cases e2;done)))
end mem
section mem
variable{P:Program}{w0:World}{U:Rn}{S:St}{w:World}
def numeric:Value->Bool
 | .int _ _ | .float _ _ | .complex _ _ _ | .string _=>true
 | _=>false
theorem VR.numeric{v v':Value} (h:VR U v v'):numeric v'=numeric v:=by cases h<;>rfl
theorem MO{t:TypeId}{a b:Value}{k:Bool->Bool} (hk:nR P t a b k=true):numeric a=false:=by
 cases a<;>first | rfl | (unfold nR at hk;cases hk)
theorem binOp_eql{t:TypeId}{a b:Value} (h:numeric a=false):binOp .eql t a b=(do pure (.bool (<-Op.equal t a b))):=by
 cases a<;>cases b<;>first | rfl | (simp [numeric]at h)
theorem binOp_neq{t:TypeId}{a b:Value} (h:numeric a=false):binOp .neq t a b=(do pure (.bool (!(<-Op.equal t a b)))):=by
 cases a<;>cases b<;>first | rfl | (simp [numeric]at h)
theorem YE (op:BinOp) (t:TypeId) (x y:Operand){a b:Value} (ha:numeric a=true) (w:World):(eqGuard op t x y a b).run P w= .ok () w:=by
 unfold eqGuard;cases op<;>cases a<;>first | (simp [numeric]at ha;done) | (cases b<;>rfl)
theorem TE{op:BinOp}{t:TypeId}{a b a' b':Value}{K:Value->Bool} (hk:RE P op t a b K=true) (ha:VR U a a') (hb:VR U b b'):
 ∃v,K v=true/\bH v=true/\∀(x y:Operand) (w:World),((do eqGuard op t x y a' b';binOp op t a' b'):Sem Value).run P w= .ok v w:=by
 unfold RE at hk;split at hk
 ·rename_i k x k' y
  rw [ha.of_flat rfl,hb.of_flat rfl]
  have fin:∀v,K v=true->bH v=true->(∀(P:Program) (t:TypeId) (w:World),(binOp op t (.int k x) (.int k' y)).run P w= .ok v w)->∃v,K v=true/\bH v=true/\∀(x' y':Operand) (w:World),((do eqGuard op t x' y' (.int k x) (.int k' y);binOp op t (.int k x) (.int k' y)):Sem Value).run P w= .ok v w:=
   fun v h1 h2 h3=>⟨v,h1,h2,fun x' y' w=>by rw [Sem.run_bind,YE op t x' y' rfl];exact h3 P t w⟩
  split at hk
  ·obtain⟨v,h1,h2,h3⟩:=ML (k':=k') hk;exact fin v h1 h2 h3
  ·obtain⟨v,h1,h2,h3⟩:=ML (k':=k') hk;exact fin v h1 h2 h3
  ·split at hk
   ·rename_i hj
    have:=zM hj;subst this;obtain⟨v,h1,h2,_,_,h3⟩:=WW hk;exact fin v h1 h2 h3
   ·cases hk
 ·rename_i x y
  rw [ha.of_flat rfl,hb.of_flat rfl];obtain⟨v,h1,h2,h3⟩:=WX hk;exact⟨v,h1,h2,fun x' y' w=>by rw [Sem.run_bind,YE op t x' y' rfl];exact h3 P t w⟩
 ·split at hk
  ·have hs:=MO hk
   obtain⟨e,he,h1,h2⟩:=DL hk ha hb;rw [pK]at he;exact⟨_,he,rfl,fun x y w=>by rw [Sem.run_bind,h2,Result.andThen_ok,binOp_eql (by rw [ha.numeric,hs])];simp [h1]⟩
  ·have hs:=MO hk
   obtain⟨e,he,h1,h2⟩:=DL hk ha hb;rw [pK]at he;exact⟨_,he,rfl,fun x y w=>by rw [Sem.run_bind,h2,Result.andThen_ok,binOp_neq (by rw [ha.numeric,hs])];simp [h1]⟩
  ·cases hk
theorem XX{op:UnOp}{a a':Value}{K:Value->Bool} (hk:unK op a K=true) (ha:VR U a a'):
 ∃v,K v=true/\bH v=true/\∀(w:World),(Op.unary op a').run P w= .ok v w:=by
 unfold unK at hk;split at hk
 ·rw [Ae]at hk
  rw [ha.of_flat rfl];exact⟨_,hk,rfl,fun w=>rfl⟩
 ·rw [nC]at hk
  rw [ha.of_flat rfl];exact⟨_,hk,rfl,fun w=>rfl⟩
 ·rw [pK]at hk
  rw [ha.of_flat rfl];exact⟨_,hk,rfl,fun w=>rfl⟩
 ·cases hk
theorem OR{d:Nat}{x:Option Value}{k:Nat->Bool} (hk:Or d x k=true):∃n,k n=true/\(x=none/\n=d\/∃kd,x=some (.int kd (.ofNat n))):=by
 unfold Or at hk;split at hk
 ·exact⟨d,hk,.inl ⟨rfl,rfl⟩⟩
 ·rename_i kd n;exact⟨n,hk,.inr ⟨kd,rfl⟩⟩
 ·cases hk
def RJ (U:Rn) (x x':Option Value):Prop:=(x=none/\x'=none)\/∃v v',x=some v/\x'=some v'/\VR U v v'
theorem RJ.int{x x':Option Value} (h:RJ U x x'){kd:IntKind}{n:Nat} (e:x=some (.int kd (.ofNat n))):x'=some (.int kd (.ofNat n)):=by
 rcases h with ⟨h,_⟩ | ⟨v,v',h1,h2,hr⟩
 ·rw [e]at h;cases h
 ·rw [e]at h1;injection h1 with h1;subst h1
  rw [h2,hr.of_flat rfl]
theorem RJ.none{x x':Option Value} (h:RJ U x x') (e:x=none):x'=none:=by
 rcases h with ⟨_,h⟩ | ⟨v,v',h1,_⟩
 ·exact h
 ·rw [e]at h1;cases h1
theorem vU{len cap:Nat}{lo hi mx lo' hi' mx':Option Value}{k:Nat->Nat->Nat->Bool} (hk:DG len cap lo hi mx k=true)
 (hl:RJ U lo lo') (hh:RJ U hi hi') (hm:RJ U mx mx'):
 ∃l h m,k l h m=true/\l<=h/\h<=m/\m<=cap/\(mx=none->m=cap)/\∀(cap':Nat),cap<=cap'->(mx'=none->mx=none)->∀(isSlice:Bool) (w:World),(mx'=none\/hi'≠none)->
  (Instr.sliceBounds isSlice len cap' lo' hi' mx').run P w= .ok (l,h,if mx'=none then cap' else m) w:=by
 unfold DG at hk;obtain⟨m,hk,em⟩:=OR hk;obtain⟨h,hk,eh⟩:=OR hk;obtain⟨l,hk,el⟩:=OR hk;split at hk
 ·rename_i h1 h2 h3
  have h1:=Nat.le_of_ble_eq_true h1;have h2:=Nat.le_of_ble_eq_true h2;have h3:=Nat.le_of_ble_eq_true h3;refine⟨l,h,m,hk,h1,h2,h3,fun e=>?_,fun cap' hc hmm isS w hhi=>?_⟩
  ·rcases em with ⟨_,e'⟩ | ⟨kd,e'⟩
   ·exact e'
   ·rw [e]at e';cases e'
  ·have Pn:(match lo' with | some v=>Instr.sliceBound v h (if mx'.isSome then .slice3C else .sliceB) | none=>(pure 0:Sem Nat)).run P w= .ok l w:=by
    rcases el with ⟨e,e'⟩ | ⟨kd,e⟩
    ·rw [hl.none e,e'];rfl
    ·rw [hl.int e];simp [Instr.sliceBound,asIntOf,h1]
   rcases em with ⟨e,e'⟩ | ⟨kd,e⟩
   ·have emx:=hm.none e
    subst emx
    have ehi:(match hi' with | some v=>Instr.sliceBound v cap' (if isS then .sliceAcap else .sliceAlen) | none=>(pure len:Sem Nat)).run P w= .ok h w:=by
     rcases eh with ⟨e2,e2'⟩ | ⟨kd2,e2⟩
     ·rw [hh.none e2,e2'];rfl
     ·rw [hh.int e2];simp [Instr.sliceBound,asIntOf];omega
    unfold Instr.sliceBounds;cases hi' with
    | none=>
     simp at ehi;cases lo' with
     | none=>simp at Pn;simp [Pn,ehi]
     | some u=>simp at Pn;simp [Pn,ehi]
    | some v=>
     simp at ehi;cases lo' with
     | none=>simp at Pn;simp [Pn,ehi]
     | some u=>simp at Pn;simp [Pn,ehi]
   ·have emx:=hm.int e
    subst emx;have aHc:hi'≠none:=by rcases hhi with h | h;cases h;exact h
    rcases eh with ⟨e2,_⟩ | ⟨kd2,e2⟩
    ·exact absurd (hh.none e2) aHc
    ·have ehi:=hh.int e2
     subst ehi;simp only [Option.isSome_some,if_true]at Pn;have r1:(Instr.sliceBound (.int kd (.ofNat m)) cap' (if isS then .slice3Acap else .slice3Alen)).run P w= .ok m w:=by simp [Instr.sliceBound,asIntOf];omega
     have r2:(Instr.sliceBound (.int kd2 (.ofNat h)) m .slice3B).run P w= .ok h w:=by simp [Instr.sliceBound,asIntOf];omega
     unfold Instr.sliceBounds;cases lo' with
     | none=>
      simp at Pn;simp only [Sem.run_bind,r1,Result.andThen_ok,r2,Sem.run_pure];simp [Pn]
     | some u=>
      simp only at Pn;simp only [Sem.run_bind,r1,Result.andThen_ok,r2,Sem.run_pure,Option.isSome_some,if_true,Pn];simp
 ·cases hk
end mem
section mem
variable{P:Program}{w0:World}{U:Rn}{S:St}{w:World}
theorem eS{t e:TypeId} (h:isSlice P t=some e):P.underlying t=some (.slice e):=by
 unfold isSlice at h;split at h
 ·rename_i hu;injection h with h;subst h;exact hu
 ·cases h
theorem Ez (s:ByteArray) (l h:Nat) (_:h<=s.size):s.extract l h=⟨⟨(s.data.toList.take h).drop l⟩⟩:=by
 apply ByteArray.ext;apply Array.toList_inj.1;simp [ByteArray.data_extract,Array.toList_extract,List.extract_eq_take_drop,List.drop_take]
theorem ME (h:Rel P w0 U S w){t:TypeId}{x x':Value}{lo hi mx lo' hi' mx':Option Value}{K:Value->Bool} (hk:rG P t x lo hi mx S K=true)
 (hx:VR U x x') (hl:RJ U lo lo') (hh:RJ U hi hi') (hm:RJ U mx mx') (hmh:mx'=none\/hi'≠none):
 ∃v v',K v=true/\VR U v v'/\∀w,(Instr.sliceAt t x' lo' hi' mx').run P w= .ok v' w:=by
 have hmm:mx'=none->mx=none:=fun e=>by
  rcases hm with ⟨h,_⟩ | ⟨_,_,_,h,_⟩
  ·exact h
  ·rw [e]at h;cases h
 unfold rG at hk;split at hk
 ·
   rename_i s;split at hk
   ·rename_i hu
    rw [hx.of_flat rfl];rw [iW]at hk;obtain⟨l,h',m,hk,h1,h2,h3,h4,hrun⟩:=vU (P:=P) hk hl hh (.inl ⟨rfl,rfl⟩);rw [vY]at hk;have hsz:s.data.toList.length=s.size:=rfl;split at hk
    ·rename_i hle
     rw [tM]at hk;split at hk
     ·refine⟨_,_,hk,.flat rfl,fun w=>?_⟩
      have e1:=hm.none rfl;subst e1;have:=hrun s.data.toList.length (Nat.le_refl _) (fun _=>rfl) false w (.inl rfl);rw [hsz]at this;simp only [if_true]at this;simp [Instr.sliceAt,run_underlying hu,Instr.slice,this,Ez s l h' (by omega)]
     ·cases hk
    ·cases hk
   ·cases hk
 ·
   rename_i len cap;split at hk
   ·rename_i e he
    have hu:=eS he;split at hk
    ·rename_i size hsz
     rw [hx.of_flat rfl];obtain⟨l,h',m,hk',h1,h2,h3,h4,hrun⟩:=vU (P:=P) hk hl hh hm;simp only [bI]at hk';refine⟨_,.slice none (h'-l) (m-l),hk',.flat rfl,fun w=>?_⟩;have:=hrun cap (Nat.le_refl _) hmm true w hmh
     have em:(if mx'=none then cap else m)=m:=by
      split
      ·rename_i e2;exact(h4 (hmm e2)).symm
      ·rfl
     rw [em]at this;simp [Instr.sliceAt,run_underlying hu,Instr.slice,this,gK hsz]
    ·cases hk
   ·cases hk
 ·
   rename_i i o sp len cap;split at hk
   ·rename_i e he
    have hu:=eS he;split at hk
    ·rename_i size hsz
     obtain⟨l,h',m,hk',h1,h2,h3,h4,hrun⟩:=vU (P:=P) hk hl hh hm;simp only [bI]at hk';clear hk
     have go:∀(a:Addr) (cap':Nat),cap<=cap'->∀w,(Instr.sliceAt t (.slice (some a) len cap') lo' hi' mx').run P w=
      .ok (.slice (some (if(if mx'=none then cap' else m)=l then a else a.add (l*size))) (h'-l) ((if mx'=none then cap' else m)-l)) w:=by
      intro a cap' hc w;have:=hrun cap' hc hmm true w hmh;have e1:∀(q:Nat),(if q=l then some a else some (a.add (l*size)))=some (if q=l then a else a.add (l*size)):=fun q=>by split<;>rfl
      simp [Instr.sliceAt,run_underlying hu,Instr.slice,this,gK hsz,e1]
     cases hx with
     | flat h=>simp [bH]at h
     | @slice _ _ _ _ L hL=>
      have em:(if mx'=none then cap else m)=m:=by
       split
       ·rename_i e2;exact(h4 (hmm e2)).symm
       ·rfl
      have hgo:=go ⟨L.b,L.s+o,none⟩ cap (Nat.le_refl _);simp only [em]at hgo
      replace hk':(match Nat.beq m l with | true=>K (.slice (some ⟨i,o,none⟩) (h'-l) (m-l)) | false=>K (.slice (some ⟨i,o+l*size,none⟩) (h'-l) (m-l)))=true:=hk'
      split at hk'
      ·rename_i hml
       have hml:=Nat.eq_of_beq_eq_true hml;exact⟨_,_,hk',.slice hL,fun w=>by rw [hgo w,if_pos hml]⟩
      ·rename_i hml
       have hml:m≠l:=fun e=>by subst e;simp at hml
       exact⟨_,_,hk',.slice hL,fun w=>by rw [hgo w,if_neg hml,nE,Nat.add_assoc]⟩
     | @mP _ _ _ _ c' L hL hc hn hend hmp=>
      have hgo:=go ⟨L.b,L.s+o,none⟩ c' hc;cases mx with
      | some y=>
       have hne:mx'≠none:=fun e=>by have:=hmm e;cases this
       simp only [if_neg hne]at hgo
       replace hk':(match Nat.beq m l with | true=>false | false=>K (.slice (some ⟨i,o+l*size,none⟩) (h'-l) (m-l)))=true:=hk'
       split at hk'
       ·cases hk'
       ·rename_i hml
        have hml:m≠l:=fun e=>by subst e;simp at hml
        exact⟨_,_,hk',.slice hL,fun w=>by rw [hgo w,if_neg hml,nE,Nat.add_assoc]⟩
      | none=>
       have he':=hm.none rfl;subst he';simp only [if_true]at hgo;have hm':=h4 rfl;subst hm'
       replace hk':(match Nat.beq m l with | true=>K (.slice (some ⟨i,0,some 1⟩) 0 0) | false=>(tI S i fun _ e ck=>match ck,bQ P e with | .exact,_=>false | _,some q=>(match Nat.beq q size with | true=>K (.slice (some ⟨i,o+l*size,some 0⟩) (h'-l) (m-l)) | false=>false) | _,none=>false))=true:=hk'
       split at hk'
       ·rename_i hml
        have hml:=Nat.eq_of_beq_eq_true hml;have e0:h'-l=0:=by omega
        refine⟨_,.slice (some (if c'=l then⟨L.b,L.s+o,none⟩else(⟨L.b,L.s+o,none⟩:Addr).add (l*size))) 0 (c'-l),hk',.tK,fun w=>?_⟩;rw [hgo w,e0]
       ·rename_i hml
        have hml:m≠l:=fun e=>by subst e;simp at hml
        obtain⟨vs,e',ck,ho,hk'⟩:=wA hk';obtain⟨cs,tt,fz,hb,_,hkind⟩:=h.cells ho hL;cases hq:bQ P e' with
        | none=>rw [hq]at hk';cases ck<;>cases hk'
        | some q=>
         rw [hq]at hk';have hne:ck≠ .exact:=by rintro rfl;cases hk'
         have hk2:(match Nat.beq q size with | true=>K (.slice (some ⟨i,o+l*size,some 0⟩) (h'-l) (m-l)) | false=>false)=true:=by cases ck<;>first | exact hk' | exact absurd rfl hne
         split at hk2
         ·rename_i hqs
          have hqs:=Nat.eq_of_beq_eq_true hqs;subst hqs
          have hm:L.m=q:=by
           cases ck with
           | exact=>exact absurd rfl hne
           | grown _=>obtain⟨_,_,_,h5,_⟩:=hkind;rw [hq]at h5;injection h5 with h5;exact h5.symm
           | stale=>obtain⟨_,h5,_⟩:=hkind;rw [hq]at h5;injection h5 with h5;exact h5.symm
           | ro=>have h5:bQ P e'=some L.m:=hkind;rw [hq]at h5;injection h5 with h5;exact h5.symm
           | rs=>have h5:=hkind.1;rw [hq]at h5;injection h5 with h5;exact h5.symm
          refine⟨_,.slice (some ⟨L.b,L.s+(o+l*q),none⟩) (h'-l) (c'-l),hk2,(.mP hL (by omega) (by omega) ?_ hmp),fun w=>by rw [hgo w,if_neg (by omega),nE,Nat.add_assoc]⟩;rw [hm]at hend ⊢;have:l*q+(c'-l)*q=c'*q:=by rw [<-Nat.add_mul];congr 1;omega
          omega
         ·cases hk2
     | @tK _ c' a=>
      have e0:l=0/\h'=0/\m=0:=by omega
      obtain⟨rfl,rfl,rfl⟩:=e0;have hgo:=go a c' (Nat.zero_le _)
      replace hk':K (.slice (some ⟨i,0,some 1⟩) 0 0)=true:=hk'
      refine⟨_,.slice (some a) 0 ((if mx'=none then c' else 0)-0),hk',.tK,fun w=>?_⟩;rw [hgo w];simp [Addr.add]
     | @tL _ _ s sp2 hs2=>
      have e0:l=0/\h'=0/\m=0:=by omega
      obtain⟨rfl,rfl,rfl⟩:=e0;have hgo:=go ⟨i,o,sp2⟩ 0 (Nat.zero_le _)
      replace hk':K (.slice (some ⟨i,0,some 1⟩) 0 0)=true:=hk'
      refine⟨_,.slice (some ⟨i,o,sp2⟩) 0 ((if mx'=none then 0 else 0)-0),hk',.tK,fun w=>?_⟩;rw [hgo w];simp []
    ·cases hk
   ·cases hk
 ·
   rename_i i o;split at hk
   ·rename_i n e hu
    split at hk
    ·rename_i size hsz
     obtain⟨l,h',m,hk',h1,h2,h3,h4,hrun⟩:=vU (P:=P) hk hl hh hm;simp only [bI]at hk';clear hk
     have em:(if mx'=none then n else m)=m:=by
      split
      ·rename_i e2;exact(h4 (hmm e2)).symm
      ·rfl
     cases hx with
     | flat h=>simp [bH]at h
     | @ptr _ _ L hL=>
      have hgo:∀w,(Instr.sliceAt t (.pointer (some ⟨L.b,L.s+o,none⟩)) lo' hi' mx').run P w= .ok (.slice (some (if m=l then⟨L.b,L.s+o,none⟩else(⟨L.b,L.s+o,none⟩:Addr).add (l*size))) (h'-l) (m-l)) w:=by
       intro w;have:=hrun n (Nat.le_refl _) hmm false w hmh;rw [em]at this;simp [Instr.sliceAt,run_underlying hu,Instr.sureAddr,this,gK hsz]
      split at hk'
      ·rename_i hml
       have hml:=Nat.eq_of_beq_eq_true hml;exact⟨_,_,hk',.slice hL,fun w=>by rw [hgo w,if_pos hml]⟩
      ·rename_i hml
       have hml:m≠l:=fun e=>by subst e;simp at hml
       exact⟨_,_,hk',.slice hL,fun w=>by rw [hgo w,if_neg hml,nE,Nat.add_assoc]⟩
    ·cases hk
   ·cases hk
 ·cases hk
end mem
section mem
variable{P:Program}{w0:World}{U:Rn}{S:St}{w:World}
theorem VR.jT{i o:Nat}{sp:Option Nat}{n c:Nat}{v':Value} (h:VR U (.slice (some ⟨i,o,sp⟩) n c) v'):
 (∃L c',U i=some L/\v'= .slice (some ⟨L.b,L.s+o,none⟩) n c'/\((sp=none/\c'=c)\/(sp=some 0/\c<=c'/\n<=c/\L.s+o+c'*L.m=L.e/\0<L.m)))\/((∃s,sp=some (s+1))/\n=0/\c=0/\∃a c',v'= .slice (some a) 0 c'):=by
 cases h with
 | flat h=>simp [bH]at h
 | slice hL=>exact .inl ⟨_,_,hL,rfl,.inl ⟨rfl,rfl⟩⟩
 | mP hL hc hn he hm=>exact .inl ⟨_,_,hL,rfl,.inr ⟨rfl,hc,hn,he,hm⟩⟩
 | tK=>exact .inr ⟨⟨_,rfl⟩,rfl,rfl,_,_,rfl⟩
 | tL _=>exact .inr ⟨⟨_,rfl⟩,rfl,rfl,_,_,rfl⟩
theorem VR.yG{i o:Nat}{sp:Option Nat}{v':Value} (h:VR U (.pointer (some ⟨i,o,sp⟩)) v'):sp=none/\∃L,U i=some L/\v'= .pointer (some ⟨L.b,L.s+o,none⟩):=by
 cases h with
 | flat h=>simp [bH]at h
 | ptr hL=>exact⟨rfl,_,hL,rfl⟩
theorem CC{t:TypeId}{x x' ix ix':Value}{K:Value->Bool} (hk:vB P t x ix K=true) (hx:VR U x x') (hi:VR U ix ix'):
 ∃v v',K v=true/\VR U v v'/\∀w,(Instr.indexAt t x' ix').run P w= .ok v' w:=by
 unfold vB at hk;split at hk
 ·rename_i kd j
  rw [hi.of_flat rfl];split at hk
  ·rename_i b o sp len c
   rcases hx.jT with ⟨L,c',hL,rfl,hsp⟩ | ⟨⟨_,rfl⟩,_⟩
   ·have hk2:(match isSlice P t with
     | some elem=>(match bQ P elem,Nat.blt j len with
      | some size,true=>cF (o+j*size) fun o=>K (.pointer (some ⟨b,o,none⟩))
      | _,_=>false)
     | none=>false)=true:=by
     rcases hsp with ⟨rfl,_⟩ | ⟨rfl,_⟩<;>exact hk
    split at hk2
    ·rename_i e he
     have hu:=eS he;split at hk2
     ·rename_i size hsz hj
      have hj:j<len:=Nat.le_of_ble_eq_true hj;rw [bI]at hk2;refine⟨_,_,hk2,.ptr hL,fun w=>?_⟩;simp [Instr.indexAt,asIntOf,run_underlying hu,hj,gK hsz,nE,Nat.add_assoc]
     ·cases hk2
    ·cases hk2
   ·cases hk
  ·rename_i b o
   obtain⟨_,L,hL,rfl⟩:=hx.yG;split at hk
   ·rename_i len e hu
    split at hk
    ·rename_i size hsz hj
     have hj:j<len:=Nat.le_of_ble_eq_true hj;rw [bI]at hk;refine⟨_,_,hk,.ptr hL,fun w=>?_⟩;simp [Instr.indexAt,asIntOf,run_underlying hu,Instr.sureAddr,hj,gK hsz,nE,Nat.add_assoc]
    ·cases hk
   ·cases hk
  ·cases hk
 ·cases hk
theorem LU{s:TypeId}{f:Nat}{fd:Field} (h:tJ P s f=some fd):∃fs,P.underlying s=some (.struct fs)/\fs[f]? =some fd:=by
 unfold tJ at h;split at h
 ·rename_i fs hu;exact⟨fs,hu,h⟩
 ·cases h
theorem CD{s:TypeId}{x x':Value}{f:Nat}{K:Value->Bool} (hk:vC P s x f K=true) (hx:VR U x x'):
 ∃v v',K v=true/\VR U v v'/\∀w,(Instr.fieldAt s x' f).run P w= .ok v' w:=by
 unfold vC at hk;split at hk
 ·rename_i b o
  obtain⟨_,L,hL,rfl⟩:=hx.yG;split at hk
  ·rename_i fd hf
   obtain⟨fs,hu,hfs⟩:=LU hf;split at hk
   ·rename_i q hsz
    rw [bI]at hk;refine⟨_,_,hk,.ptr hL,fun w=>?_⟩;simp [Instr.fieldAt,run_underlying hu,hfs,Instr.sureAddr,fieldPlace,gK hsz,nE,Nat.add_assoc]
   ·cases hk
  ·cases hk
 ·cases hk
theorem QA{t:TypeId}{cs:List Value}{cs':Array Value}{off:Nat}{K:Value->Bool} (hk:XR P t cs off K=true) (hcs:jP U cs cs'.toList):
 ∃v v',K v=true/\VR U v v'/\∀w,(part t cs' off).run P w= .ok v' w:=by
 unfold XR at hk;split at hk
 ·rename_i hagg
  obtain⟨v,hv,hk⟩:=CE hk;obtain⟨v',hv',hr⟩:=hcs.get hv;rw [Array.getElem?_toList]at hv';exact⟨v,v',hk,hr,fun w=>by simp [part,zJ hagg,hv']⟩
 ·rename_i hagg
  split at hk
  ·rename_i n hsz
   rw [tM]at hk;split at hk
   ·rw [vY]at hk
    split at hk
    ·rename_i h1 h2
     refine⟨_,.agg ⟨(cs'.toList.drop off).take n⟩,hk,.ZK ((hcs.drop off).take n),fun w=>?_⟩
     have:cs'.extract off (off+n)=⟨(cs'.toList.drop off).take n⟩:=by
      apply Array.toList_inj.1;simp [Array.toList_extract,List.extract_eq_take_drop]
     simp [part,zJ hagg,gK hsz,this]
    ·cases hk
   ·cases hk
  ·cases hk
 ·cases hk
theorem LV{t:TypeId}{x x':Value}{f:Nat}{K:Value->Bool} (hk:FQ P t x f K=true) (hx:VR U x x'):
 ∃v v',K v=true/\VR U v v'/\∀w,(Instr.field t x' f).run P w= .ok v' w:=by
 unfold FQ at hk;split at hk
 ·rename_i cs
  obtain⟨cs',rfl,hcs⟩:=hx.BA;split at hk
  ·rename_i fd hf
   obtain⟨fs,hu,hfs⟩:=LU hf;obtain⟨v,v',h1,h2,h3⟩:=QA hk hcs;exact⟨v,v',h1,h2,fun w=>by simp [Instr.field,run_underlying hu,hfs,asAgg,h3]⟩
  ·cases hk
 ·cases hk
theorem LW{t:TypeId}{x x' ix ix':Value}{K:Value->Bool} (hk:OE P t x ix K=true) (hx:VR U x x') (hi:VR U ix ix'):
 ∃v v',K v=true/\VR U v v'/\∀w,(Instr.index t x' ix').run P w= .ok v' w:=by
 unfold OE at hk;split at hk
 ·rename_i kd j
  rw [hi.of_flat rfl];split at hk
  ·rename_i cs
   obtain⟨cs',rfl,hcs⟩:=hx.BA;split at hk
   ·rename_i len e hu
    split at hk
    ·rename_i size hsz hj
     have hj:j<len:=Nat.le_of_ble_eq_true hj;obtain⟨v,v',h1,h2,h3⟩:=QA hk hcs;exact⟨v,v',h1,h2,fun w=>by simp [Instr.index,asIntOf,run_underlying hu,hj,gK hsz,h3]⟩
    ·cases hk
   ·cases hk
  ·rename_i s
   rw [hx.of_flat rfl];split at hk
   ·rename_i hu
    obtain⟨b,hb,hk⟩:=CE hk;rw [bI]at hk;refine⟨_,_,hk,.flat rfl,fun w=>?_⟩
    have hb':s[j]? =some b:=by
     rw [Array.getElem?_toList]at hb;obtain⟨h1,h2⟩:=Array.getElem?_eq_some_iff.1 hb;have h3:j<s.size:=h1;rw [getElem?_pos s j h3]
     congr 1
    simp [Instr.index,asIntOf,run_underlying hu,hb']
   ·cases hk
  ·cases hk
 ·cases hk
theorem ZL (l:List Value):∀(off n:Nat) (cs:Array Value),off+n+l.length<=cs.size->
 ((l.zipIdx n).foldl (fun cs (x:Value×Nat)=>cs.setIfInBounds (off+x.2) x.1) cs).toList=splice (off+n) l cs.toList:=by
 induction l with
 | nil=>intro off n cs _;simp [splice]
 | cons v l ih=>
  intro off n cs h;simp only [List.zipIdx_cons,List.foldl_cons];rw [ih off (n+1) _ (by simp at h ⊢;omega)];apply List.ext_getElem?;intro j;have hl:cs.toList.length=cs.size:=rfl;rw [nS _ _ _ (by simp at h ⊢;omega),nS _ _ _ (by simp at h ⊢;omega)];simp only [Array.toList_setIfInBounds,List.length_cons];by_cases h2:j=off+n
  ·subst h2
   rw [if_neg (by omega),if_pos (by omega),Nat.sub_self];have:off+n<cs.size:=by simp at h;omega
   simp [this]
  ·by_cases h3:off+(n+1)<=j/\j<off+(n+1)+l.length
   ·rw [if_pos h3,if_pos (by omega)]
    obtain⟨q,rfl⟩:∃q,j=off+n+(q+1):=⟨j-(off+n+1),by omega⟩;rw [show off+n+(q+1)-(off+(n+1))=q by omega,show off+n+(q+1)-(off+n)=q+1 by omega];simp
   ·rw [if_neg h3,if_neg (by omega),List.getElem?_set_ne (by omega)]
def ST (U:Rn) (l l':List (Nat×Value)):Prop:=l.length=l'.length/\∀(k:Nat) (p p':Nat×Value),l[k]? =some p->l'[k]? =some p'->p.1=p'.1/\VR U p.2 p'.2
theorem ST.cC{p:Nat×Value}{l l':List (Nat×Value)} (h:ST U (p::l) l'):∃p' t',l'=p'::t'/\p.1=p'.1/\VR U p.2 p'.2/\ST U l t':=by
 cases l' with
 | nil=>have:=h.1;simp at this
 | cons p' t'=>
  obtain⟨h1,h2⟩:=h.2 0 p p' rfl rfl;exact⟨p',t',rfl,h1,h2,by simpa using h.1,fun k q q' a b=>h.2 (k+1) q q' (by simpa using a) (by simpa using b)⟩
theorem BB{place place':Nat->Option (Nat×Nat)} (hpl:∀i q,place i=some q->place' i=some q):∀{parts parts':List (Nat×Value)} {cells:List Value} {cells':Array Value} {k:List Value->Bool},
 JF place parts cells k=true->ST U parts parts'->jP U cells cells'.toList->∃out out',k out=true/\Instr.fill place' cells' parts'=some out'/\jP U out out'.toList/\out.length=cells.length:=by
 intro parts;induction parts with
 | nil=>
  intro parts' cells cells' k hk hp hc;have:parts'=[]:=List.eq_nil_of_length_eq_zero hp.1.symm;subst this;exact⟨cells,cells',hk,rfl,hc,rfl⟩
 | cons p parts ih=>
  intro parts' cells cells' k hk hp hc;obtain⟨p',t',rfl,h1,h2,ht⟩:=hp.cC
  have hk':(match place p.1 with
   | some (off,size)=>lZ p.2 fun new=>vX new fun m=>match Nat.beq m size with
    | true=>oE off new cells fun cs=>JF place parts cs k
    | false=>false
   | none=>false)=true:=hk
  split at hk'
  ·rename_i off size hq
   obtain⟨new,hk',hone,hnew,_⟩:=vQ hk' h2;rw [iW]at hk';split at hk'
   ·rename_i hm
    have hm:=Nat.eq_of_beq_eq_true hm;rw [sK]at hk';split at hk'
    ·rename_i hlen
     have hsz:p'.2.cells.size=size:=by rw [<-hm,hnew.1];rfl
     have hcl:cells.length=cells'.size:=hc.1;have hnl:new.length=p'.2.cells.size:=hnew.1
     have e1:(p'.2.cells.zipIdx.foldl (fun cs (x:Value×Nat)=>cs.setIfInBounds (off+x.2) x.1) cells').toList=splice off p'.2.cells.toList cells'.toList:=by
      rw [<-Array.foldl_toList,Array.toList_zipIdx];exact ZL p'.2.cells.toList off 0 cells' (by have:p'.2.cells.toList.length=p'.2.cells.size:=rfl;omega)
     obtain⟨out,out',g1,g2,g3,g4⟩:=ih (cells':=p'.2.cells.zipIdx.foldl (fun cs (x:Value×Nat)=>cs.setIfInBounds (off+x.2) x.1) cells') hk' ht (by rw [e1];exact hc.splice hnew off);refine⟨out,out',g1,?_,g3,by rw [g4,vR _ _ _ hlen]⟩;obtain⟨i',v'⟩:=p';simp only at h1;simp only [Instr.fill,<-h1,hpl _ _ hq];have c1:(v'.cells.size != size)=false:=by simp;exact hsz
     have c2:¬off+v'.cells.size>cells'.size:=by
      have:v'.cells.size=new.length:=by rw [hnl]
      omega
     rw [if_neg (by simp;have:v'.cells.size=new.length:=by rw [hnl]
                    omega)]
     exact g2
    ·cases hk'
   ·cases hk'
  ·cases hk'
end mem
section mem
variable{P:Program}{w0:World}{U:Rn}{S:St}{w:World}
theorem yH (h:Rel P w0 U S w){A:aX}{a:Act} (hA:sL P U A a):∀{parts:List (Nat×Operand)} {k:List (Nat×Value)->Bool},xB A parts k=true->
 ∃ps,k ps=true/\ST U ps (parts.map fun p=>(p.1,a.eval p.2)):=by
 intro parts;induction parts with
 | nil=>intro k hk;exact⟨[],hk,rfl,by simp⟩
 | cons p parts ih=>
  intro k hk;obtain⟨v,hv,hr⟩:=aM h hA (show pT A p.2 (fun v=>xB A parts fun l=>k ((p.1,v)::l))=true from hk);obtain⟨ps,hps,hrs⟩:=ih hv;refine⟨(p.1,v)::ps,hps,by simp [hrs.1],fun j q q' x y=>?_⟩;cases j with
  | zero=>simp at x y;subst x y;exact⟨rfl,hr⟩
  | succ j=>simp at x;exact hrs.2 j q q' x (by simpa using y)
theorem ZM:∀(fs:List Field) (pl:List (Nat×Nat)),placesOf P fs=some pl->∀w,(fs.mapM (fun f=>(do pure (f.offset,<-sizeOf f.type):Sem (Nat×Nat)))).run P w= .ok pl w:=by
 intro fs;induction fs with
 | nil=>intro pl h w;simp [placesOf]at h;subst h;rfl
 | cons f fs ih=>
  intro pl h w;simp only [placesOf,List.mapM_cons]at h;cases hs:bQ P f.type with
  | none=>simp [hs]at h
  | some s=>
   cases hp:fs.mapM (fun f=>(bQ P f.type).map fun s=>(f.offset,s))with
   | none=>simp [hs,hp]at h
   | some pl'=>
    simp [hs,hp]at h;subst h;have:=ih pl' hp w;simp only [List.mapM_cons,Sem.run_bind,gK hs,Result.andThen_ok,Sem.run_pure,this]
theorem LX (h:Rel P w0 U S w){A:aX}{a:Act} (hA:sL P U A a){t:TypeId}{parts:Array (Nat×Operand)}{K:Value->Bool} (hk:SS P A t parts.toList K=true):
 ∃v v',K v=true/\VR U v v'/\∀w,(Instr.build t (parts.map fun p=>(p.1,a.eval p.2))).run P w= .ok v' w:=by
 unfold SS at hk;split at hk
 ·rename_i zero fields hz hu
  split at hk
  ·rename_i pl hpl
   split at hk
   ·rename_i QB
    obtain⟨ps,hk,hps⟩:=yH h hA hk;have XS:jP U zero zero:= .flat (by rw [mQ]at QB;exact List.all_eq_true.1 QB);obtain⟨out,out',g1,g2,g3,_⟩:=BB (place':=(pl.toArray[·]?)) (cells':=⟨zero⟩) (by intro i q hq;simpa using hq) hk hps XS;refine⟨_,.agg out',g1,.ZK g3,fun w=>?_⟩;obtain⟨zv,hz1,hz2⟩:=vE hz w;have ez:zv.cells=⟨zero⟩:=Array.toList_inj.1 hz2;have hpr:=ZM fields.toList pl hpl w
    have aGS:(fields.mapM (fun f=>(do pure (f.offset,<-sizeOf f.type):Sem (Nat×Nat)))).run P w= .ok pl.toArray w:=by
     rw [Array.mapM_eq_mapM_toList,Sem.run_map,hpr];rfl
    simp only [Instr.build,Sem.run_bind,hz1,Result.andThen_ok,run_underlying hu,aGS,ez];have e2:(parts.map fun p=>(p.1,a.eval p.2)).toList=parts.toList.map fun p=>(p.1,a.eval p.2):=by simp
    rw [e2,g2];rfl
   ·cases hk
  ·cases hk
 ·rename_i zero n elem hz hu
  split at hk
  ·rename_i size hsz
   split at hk
   ·rename_i QB
    obtain⟨ps,hk,hps⟩:=yH h hA hk;have XS:jP U zero zero:= .flat (by rw [mQ]at QB;exact List.all_eq_true.1 QB);obtain⟨out,out',g1,g2,g3,_⟩:=BB (place':=fun i=>some (i*size,size)) (cells':=⟨zero⟩) (by intro i q hq;exact hq) hk hps XS;refine⟨_,.agg out',g1,.ZK g3,fun w=>?_⟩;obtain⟨zv,hz1,hz2⟩:=vE hz w;have ez:zv.cells=⟨zero⟩:=Array.toList_inj.1 hz2;have e2:(parts.map fun p=>(p.1,a.eval p.2)).toList=parts.toList.map fun p=>(p.1,a.eval p.2):=by simp
    simp only [Instr.build,Sem.run_bind,hz1,Result.andThen_ok,run_underlying hu,gK hsz,ez];rw [e2,g2];rfl
   ·cases hk
  ·cases hk
 ·cases hk
theorem Rel.HO (h:Rel P w0 U S w){cs cs':List Value} (hcs:jP U cs cs') (t:TypeId){K:Nat->St->Bool} (hk:qW S (.cells cs t .exact) K=true):
 ∃U' S' w',K S.n S'=true/\w'=w.alloc (.cells ⟨cs'⟩ t)/\Rel P w0 U' S' w'/\Stp U w U' w'/\∃L,U' S.n=some L/\L.b=w.heap.size/\L.s=0:=by
 rw [gD]at hk;obtain⟨h1,h2⟩:=h.Ti hcs t 0;exact⟨_,_,_,hk,rfl,h1,h2,_,Rn.iJ _ _ _,rfl,rfl⟩
theorem Rel.aAn (h:Rel P w0 U S w) (ob:Obj){K:Nat->St->Bool} (hk:qW S .dead K=true):
 ∃U' S' w',K S.n S'=true/\w'=w.alloc ob/\Rel P w0 U' S' w'/\Stp U w U' w'/\∃L,U' S.n=some L/\L.b=w.heap.size/\L.s=0:=by
 rw [gD]at hk;obtain⟨h1,h2⟩:=h.new .dead ob ⟨w.heap.size,0,0,0⟩ rfl (fun _ _ _=>trivial) (fun _ hi=>nomatch hi);exact⟨_,_,_,hk,rfl,h1,h2,_,Rn.iJ _ _ _,rfl,rfl⟩
theorem VR.aCI{i:Nat}{L:Loc} (h:U i=some L){b:Nat} (hb:L.b=b) (hs:L.s=0):VR U (.pointer (some ⟨i,0,none⟩)) (.pointer (some ⟨b,0,none⟩)):=by
 have:=VR.ptr (o:=0) h;rw [hb,hs]at this;exact this
theorem VR.SU{i:Nat}{L:Loc} (h:U i=some L){b:Nat} (hb:L.b=b) (hs:L.s=0) (n c:Nat):VR U (.slice (some ⟨i,0,none⟩) n c) (.slice (some ⟨b,0,none⟩) n c):=by
 have:=VR.slice (o:=0) (n:=n) (c:=c) h;rw [hb,hs]at this;exact this
theorem If (h:Rel P w0 U S w){t:TypeId}{x x':Value}{K:VK} (hk:Dr t x S K=true) (hx:VR U x x'):
 ∃U' v S' v' w',K v S'=true/\(Instr.box t x').run P w= .ok v' w'/\VR U' v v'/\Rel P w0 U' S' w'/\Stp U w U' w':=by
 unfold Dr at hk;obtain⟨cs,hk,_,hcs,_⟩:=vQ hk hx;obtain⟨U',S',w',hk,hw,h1,h2,L,hL,hb,hs⟩:=h.HO hcs t hk;exact⟨U',_,S',_,w',hk,by subst hw;simp [Instr.box,newVar,newRow],.aCI hL hb hs,h1,h2⟩
theorem ZN (h:Rel P w0 U S w){t:TypeId}{K:VK} (hk:FR P t S K=true):
 ∃U' v S' v' w',K v S'=true/\(Instr.alloc t true (.tuple #[])).run P w= .ok v' w'/\VR U' v v'/\Rel P w0 U' S' w'/\Stp U w U' w':=by
 unfold FR at hk;split at hk
 ·rename_i zero hz
  split at hk
  ·rename_i QB
   rw [Lx]at hk;have XS:jP U zero zero:= .flat (by rw [mQ]at QB;exact List.all_eq_true.1 QB);obtain⟨U',S',w',hk,hw,h1,h2,L,hL,hb,hs⟩:=h.HO XS t hk;obtain⟨zv,hz1,hz2⟩:=vE hz w;have ez:zv.cells=⟨zero⟩:=Array.toList_inj.1 hz2;exact⟨U',_,S',_,w',hk,by subst hw;simp [Instr.alloc,hz1,newVar,newRow,ez],.aCI hL hb hs,h1,h2⟩
  ·cases hk
 ·cases hk
theorem SV{t:TypeId}{z:List Value} (h:qC P t=some z){i:TypeInfo} (hi:P.info? t=some i):∃v,i.zero=some v/\v.cells.toList=z:=by
 unfold qC at h;rw [hi]at h;cases hz:i.zero with
 | none=>simp [hz]at h
 | some v=>simp [hz]at h;exact⟨v,rfl,h⟩
theorem CF (zero:List Value) (z:Array Value) (hz:z.toList=zero) (n:Nat) (h0:zero≠[]):(Array.range (n*zero.length)).map (fun i=>z[i%z.size]!)=⟨(List.replicate n zero).flatten⟩:=by
 apply Array.toList_inj.1;have hsz:z.size=zero.length:=by rw [<-hz];rfl
 have hpos:0<zero.length:=List.length_pos_iff.2 h0;apply List.ext_getElem?;intro j;simp only [Array.toList_map,Array.toList_range,hsz];have hlen:(List.replicate n zero).flatten.length=n*zero.length:=by simp
 by_cases hj:j<n*zero.length
 ·rw [List.getElem?_map,List.getElem?_range hj]
  have hm:j%zero.length<zero.length:=Nat.mod_lt _ hpos
  have e1:z[j%zero.length]! =zero[j%zero.length]:=by
   rw [getElem!_pos z _ (by omega)];subst hz;rfl
  have e2:∀n j,j<n*zero.length->(List.replicate n zero).flatten[j]? =some (zero[j%zero.length]'(Nat.mod_lt _ hpos)):=by
   intro n;induction n with
   | zero=>intro j hj;simp at hj
   | succ n ih=>
    intro j hj;simp only [List.replicate_succ,List.flatten_cons];by_cases h1:j<zero.length
    ·rw [List.getElem?_append_left h1,List.getElem?_eq_getElem h1]
     congr 1;simp [Nat.mod_eq_of_lt h1]
    ·rw [List.getElem?_append_right (by omega),ih (j-zero.length) (by rw [Nat.succ_mul]at hj;omega)]
     congr 1
     simp only [Nat.mod_eq_sub_mod (show j>=zero.length by omega)]
  rw [e2 n j hj];simp [e1]
 ·rw [List.getElem?_eq_none (by simp;omega),List.getElem?_eq_none (by rw [hlen];omega)]
theorem OJ (h:Rel P w0 U S w){t:TypeId}{l l' c c':Value}{K:VK} (hk:qJ P t l c S K=true) (hl:VR U l l') (hc:VR U c c'):
 ∃U' v S' v' w',K v S'=true/\(Instr.makeSlice t l' c').run P w= .ok v' w'/\VR U' v v'/\Rel P w0 U' S' w'/\Stp U w U' w':=by
 unfold qJ at hk;split at hk
 ·rename_i k1 l k2 c
  rw [hl.of_flat rfl,hc.of_flat rfl];split at hk
  ·rename_i elem he
   have hu:=eS he;split at hk
   ·rename_i info zero hi hz
    split at hk
    ·rename_i q h1 h2 h3 h4 h5
     have h1:=Nat.le_of_ble_eq_true h1;have h2:=Nat.le_of_ble_eq_true h2;have h3:=Nat.le_of_ble_eq_true h3;have h4:=Nat.eq_of_beq_eq_true h4;split at hk
     ·rename_i QB
      obtain⟨zv,hzi,hz2⟩:=SV hz hi;have hne:zero≠[]:=by intro e;rw [e]at h4;simp at h4;omega
      have hzs:=CF zero zv.cells hz2 c hne
      have h2':(info.bytes:Int)*(c:Int)<=1099511627776:=by
       have:((info.bytes*c:Nat):Int)<=1099511627776:=by omega
       rwa [Int.natCast_mul]at this
      have hr:=run_make (P:=P) w t elem info zv hu hi hzi k1 k2 l c (by omega) (by omega) (by omega) (by omega);simp only [Int.toNat_natCast]at hr;have hm:madeCells zv.cells (c*info.size)=⟨(List.replicate c zero).flatten⟩:=by rw [<-hzs,h4];rfl
      split at hk
      ·rw [vS]at hk
       have XS:jP U zero zero:= .flat (by rw [mQ]at QB;exact List.all_eq_true.1 QB);obtain⟨U',S',w',hk,hw,g1,g2,L,hL,hb,hs⟩:=h.HO (XS.flatten c) elem hk;refine⟨U',_,S',_,w',hk,hr.trans ?_,.SU hL hb hs l c,g1,g2⟩;rw [hw,hm]
      ·obtain⟨U',S',w',hk,hw,g1,g2,L,hL,hb,hs⟩:=h.aAn (.cells ⟨(List.replicate c zero).flatten⟩ elem) hk
       refine⟨U',_,S',_,w',hk,hr.trans ?_,.SU hL hb hs l c,g1,g2⟩;rw [hw,hm]
     ·cases hk
    ·cases hk
   ·cases hk
  ·cases hk
 ·cases hk
end mem
section mem
variable{P:Program}{w0:World}{U:Rn}{S:St}{w:World}
theorem LY (h:Rel P w0 U S w){A:aX}{a:Act} (hA:sL P U A a){t:TypeId}{len:Nat}{parts:Array (Nat×Operand)}{K:VK} (hk:sV P A t len parts.toList S K=true):
 ∃U' v S' v' w',K v S'=true/\(Instr.buildSlice t len (parts.map fun p=>(p.1,a.eval p.2))).run P w= .ok v' w'/\VR U' v v'/\Rel P w0 U' S' w'/\Stp U w U' w':=by
 unfold sV at hk;split at hk
 ·rename_i elem he
  have hu:=eS he;split at hk
  ·rename_i size zero hsz hz
   split at hk
   ·rename_i h1 h2
    have h1:=Nat.le_of_ble_eq_true h1;have h2:=Nat.eq_of_beq_eq_true h2;split at hk
    ·rename_i QB
     have XS:jP U zero zero:= .flat (by rw [mQ]at QB;exact List.all_eq_true.1 QB);rw [vS]at hk;obtain⟨ps,hk,hps⟩:=yH h hA hk;obtain⟨out,out',g1,g2,g3,_⟩:=BB (place':=fun i=>some (i*(size+1),size+1)) (cells':=⟨(List.replicate len zero).flatten⟩) (by intro i q hq;exact hq) hk hps (XS.flatten len);obtain⟨U',S',w',hk,hw,r1,r2,L,hL,hb,hs⟩:=h.HO g3 elem g1;refine⟨U',_,S',_,w',hk,?_,.SU hL hb hs len len,r1,r2⟩;obtain⟨zv,hz1,hz2⟩:=vE hz w;have hne:zero≠[]:=by intro e;rw [e]at h2;simp at h2
     have e2:(parts.map fun p=>(p.1,a.eval p.2)).toList=parts.toList.map fun p=>(p.1,a.eval p.2):=by simp
     have hc:¬len*(size+1)>2 ^ 24:=by omega
     rw [hw];by_cases h0:len*(size+1)=0
     ·have hl0:len=0:=by
       rcases Nat.mul_eq_zero.1 h0 with h0 | h0
       ·exact h0
       ·omega
      subst hl0;have e3:(⟨(List.replicate 0 zero).flatten⟩:Array Value)= #[]:=by simp
      rw [e3]at g2;have e4:∀f:Nat->Value,(Array.range 0).map f= #[]:=fun f=>by simp
      simp only [Instr.buildSlice,Sem.run_bind,run_underlying hu,Result.andThen_ok,gK hsz,Nat.zero_mul,e4,e2,g2,newRow];rfl
     ·have hzs:=CF zero zv.cells hz2 len hne
      rw [h2]at hzs;simp only [Instr.buildSlice,Sem.run_bind,run_underlying hu,Result.andThen_ok,gK hsz,if_neg hc,if_neg h0,hz1,Sem.run_pure,hzs,e2,g2,newRow];rfl
    ·cases hk
   ·cases hk
  ·cases hk
 ·cases hk
end mem
section conv
variable{P:Program}{w0:World}{U:Rn}{S:St}{w:World}
theorem ZO (l:List UInt8) (k:List Value->Bool):Td l k=k (l.map fun b=> .int .u8 (b.toNat:Int)):=by
 induction l generalizing k with
 | nil=>rfl
 | cons b l ih=>
  show cF b.toNat (fun n=>Td l fun t=>k (.int .u8 (.ofNat n)::t))=_;rw [bI,ih];rfl
theorem QC:∀{l:List Value} {k:List UInt8->Bool},Ic l k=true->∃ns:List Nat,k (ns.map UInt8.ofNat)=true/\l=ns.map (fun n=> .int .u8 (.ofNat n)):=by
 intro l;induction l with
 | nil=>intro k hk;exact⟨[],hk,rfl⟩
 | cons v l ih=>
  intro k hk;unfold Ic at hk;rw [bG]at hk;split at hk
  ·rename_i n
   obtain⟨ns,h1,h2⟩:=ih (k:=fun t=>k (UInt8.ofNat n::t)) hk;exact⟨n::ns,h1,by rw [h2];rfl⟩
  ·cases hk
theorem jP.Ly{l l':List Value} (h:jP U l l') (hf:∀v∈l,bH v=true):l'=l:=by
 apply List.ext_getElem?;intro k;cases hk:l[k]? with
 | none=>exact h.get_none hk
 | some x=>
  obtain⟨x',hx',hr⟩:=h.get hk;rw [hx',hr.of_flat (hf x (List.mem_of_getElem? hk))]
theorem Du (h:Rel P w0 U S w){src dst:TypeId}{x x':Value}{K:VK} (hk:PY P src dst x S K=true) (hx:VR U x x'):
 ∃U' v S' v' w',K v S'=true/\(convert src dst x').run P w= .ok v' w'/\VR U' v v'/\Rel P w0 U' S' w'/\Stp U w U' w':=by
 unfold PY at hk;split at hk
 ·rename_i kd n
  cases hx.of_flat rfl;split at hk
  ·rename_i d k hs hd
   unfold DE at hk;rw [nC,LZ]at hk;refine⟨U,_,S,_,w,hk,?_,.flat rfl,h,.refl U w⟩;simp [convert,run_underlying hs,run_underlying hd,Conv.intToInt]
  ·cases hk
 ·rename_i s
  cases hx.of_flat rfl;split at hk
  ·rename_i hs hd
   refine⟨U,_,S,_,w,hk,?_,.flat rfl,h,.refl U w⟩;simp [convert,run_underlying hs,run_underlying hd]
  ·rename_i e hs hd
   split at hk
   ·rename_i he h1
    rw [ZO,iW,gD]at hk;have hcap:=grownCap_ge w s.size 0 e;generalize hcc:grownCap w s.size 0 e=cc at hcap
    let bs:List Value:=s.data.toList.map (fun b:UInt8=>Value.int .u8 (b.toNat:Int))
    let zs:List Value:=List.replicate (cc-s.size) (.int .u8 0)
    have hbl:bs.length=s.size:=by show(List.map _ _).length=_;rw [List.length_map];rfl
    have hzl:zs.length=cc-s.size:=List.length_replicate;have hrow:bytesRow s cc=⟨bs++zs⟩:=by apply Array.toList_inj.1;simp [bytesRow,bs,zs]
    have hsz:(bytesRow s cc).size=cc:=by rw [hrow];show(bs++zs).length=_;rw [List.length_append];omega
    have hfl:jP U bs bs:= .flat (by simp [bs,bH]);obtain⟨r1,r2⟩:=h.drew.Dv (more:=zs) hfl e h1 ((bytesRow s cc).size,(bytesRow s cc).size+1) (by intro x hx;rw [List.length_append]at hx;omega) [] (by simp);have hrun:=run_bytes_of_string w src dst e s hs hd he;rw [hcc,hrow]at hrun;rw [hrow]at r1 r2;refine⟨_,_,_,_,_,hk,hrun,?_,r1,(Stp.drew U w).trans r2⟩;have hL:=Rn.iJ U S.n ⟨w.drew.heap.size,0,(bs++zs).length,1⟩;have:=VR.mP (o:=0) (n:=s.size) (c:=s.size) (c':=cc) hL hcap (Nat.le_refl _) (by simp only [List.length_append];omega) Nat.one_pos;rw [List.length_map];exact this
   ·cases hk
  ·cases hk
 ·rename_i n c
  cases hx.of_flat rfl;split at hk
  ·rename_i e hs hd
   split at hk
   ·rename_i he
    exact⟨U,_,S,_,w,hk,run_convert_bytes_nil w src e hs he _ _ dst hd,.flat rfl,h,.refl U w⟩
   ·cases hk
  ·cases hk
 ·rename_i i o sp len c
  split at hk
  ·cases hk
  ·rename_i e hs hd hsp
   split at hk
   ·rename_i he
    rcases hx.jT with ⟨L,c',hL,rfl,_⟩ | ⟨⟨s1,h1⟩,rfl,rfl,_⟩
    ·obtain⟨vs,e',ck,ho,hle,hk⟩:=sM hk
     obtain⟨l',hl',hlen,hc⟩:=h.zB ho hL hle;obtain⟨ns,hk,hns⟩:=QC hk;rw [hns]at hl';have hl'':l'=ns.map (fun n=> .int .u8 (.ofNat n)):=hl'.Ly (by simp [bH]);refine⟨U,_,S,_,w,hk,?_,.flat rfl,h,.refl U w⟩;rw [run_convert_bytes_string w src dst e _ _ _ hs he hd];have hld:=run_loadCells (P:=P) ⟨L.b,L.s+o,none⟩ l' hlen hc;rw [hl'']at hld;have e1:(⟨ns.map (fun n=>Value.int .u8 (.ofNat n))⟩:Array Value)=((ns.map Int.ofNat).map (Value.int .u8)).toArray:=by simp [List.map_map,Function.comp_def]
     rw [e1]at hld;rw [run_bytesToString w _ _ _ _ hld]
     congr 2
     have hf:∀(l:List Nat) (r:ByteArray),(l.map Int.ofNat).foldl (fun r (n:Int)=>r.push (UInt8.ofNat n.toNat)) r=⟨r.data++(l.map UInt8.ofNat).toArray⟩:=by
      intro l;induction l with
      | nil=>intro r;simp
      | cons b l ih=>intro r;simp only [List.map_cons,List.foldl_cons,ih];simp [ByteArray.push]
     rw [hf];have he0:ByteArray.empty.data= #[]:=rfl;rw [he0];simp
    ·subst h1;exact absurd rfl (hsp _)
   ·cases hk
  ·cases hk
 ·cases hk
end conv
end Go.Am
namespace Go.Am
open Go.RowKit Go.MapKept
section maps
variable{P:Program}{w0:World}{U:Rn}{S:St}{w:World}
theorem Rel.aAo (h:Rel P w0 U S w){i:Nat}{o o':gF} (ho:S.obj i=some o) (hd:o.sN=false) (hr:o.reads=false) (hol:o.olds=[]){L:Loc} (hL:U i=some L) (hb:w0.heap.size<=L.b)
 (aCJ:o'.olds=[]) (ob:Obj) (mT:(w.putObj L.b ob).heap[L.b]? =some ob->vF P w0 U (w.putObj L.b ob) i o'):Rel P w0 U (S.set i o') (w.putObj L.b ob)/\Stp U w U (w.putObj L.b ob):=by
 have hlt:=h.loc i L hL;have mT:=mT (World.putObj_heap_same hlt)
 have hne:∀j x,j≠i->S.obj j=some x->x.sN=false->∀M,U j=some M->M.b≠L.b:=by
  intro j x hji hx hxd M hM e;rcases h.sep i j o x L M (Ne.symm hji) ho hx hd hxd hL hM e.symm with ⟨h1,_⟩ | h1 | h1
  ·rw [hr]at h1;cases h1
  ·rw [hol]at h1;cases h1
  ·cases x with
   | cells vs t k=>
    cases k with
    | grown olds=>
     obtain⟨_,h2⟩:=h.old j vs t olds hx i h1;rcases h2 o ho with h3 | ⟨ws,t',h3,_⟩
     ·rw [h3]at hd;cases hd
     ·rw [h3]at hr;cases hr
    | _=>cases h1
   | _=>cases h1
 have hcase:∀j x,(S.set i o').obj j=some x->(j=i/\x=o')\/(j≠i/\S.obj j=some x):=fun j x hx=>by
  rw [vT]at hx;by_cases e:j=i
  ·rw [if_pos e]at hx;injection hx with hx;exact .inl ⟨e,hx.symm⟩
  ·rw [if_neg e]at hx;exact .inr ⟨e,hx⟩
 refine h.upd (S':=S.set i o') hb ⟨i,L,hL,rfl⟩ rfl (putObj_size _ _) (fun c hc=>qX hc) rfl rfl rfl (fun j x hx=>?_) (fun a b x y M N hab hx hy hxd hyd hM hN RG=>?_) (fun j vs e olds hj q hq=>?_)
 ·rcases hcase j x hx with ⟨rfl,rfl⟩ | ⟨e,hx⟩
  ·exact .inr (.inr ⟨h.lt j o ho,mT⟩)
  ·cases hxd:x.sN with
   | true=>exact .inl ⟨rfl,h.lt j x hx⟩
   | false=>exact .inr (.inl ⟨hx,hne j x e hx hxd⟩)
 ·rcases hcase a x hx with ⟨e1,_⟩ | ⟨ea,hx1⟩<;>rcases hcase b y hy with ⟨e2,_⟩ | ⟨eb,hy1⟩
  ·exact absurd (e1.trans e2.symm) hab
  ·rw [e1,hL]at hM;injection hM with hM;subst hM;exact absurd RG.symm (hne b y eb hy1 hyd N hN)
  ·rw [e2,hL]at hN;injection hN with hN;subst hN;exact absurd RG (hne a x ea hx1 hxd M hM)
  ·exact h.sep a b x y M N hab hx1 hy1 hxd hyd hM hN RG
 ·rcases hcase j _ hj with ⟨rfl,e2⟩ | ⟨e,hj⟩
  ·rw [<-e2]at aCJ;simp only [gF.olds]at aCJ;subst aCJ;cases hq
  ·obtain⟨h1,h2⟩:=h.old j vs _ olds hj q hq
   refine⟨h1,fun x hx=>?_⟩;rcases hcase q x hx with ⟨rfl,rfl⟩ | ⟨e',hx⟩
   ·rcases h2 o ho with h3 | ⟨ws,t',h3,_⟩
    ·rw [h3]at hd;cases hd
    ·rw [h3]at hr;cases hr
   ·exact h2 x hx
theorem zC{m:Value}{k:Option Nat->List MapEntry->Nat->Bool} (hk:ZF S m k=true):
 (m= .map none/\k none [] 0=true)\/∃r es c,m= .map (some r)/\S.obj r=some (.map es c)/\k (some r) es c=true:=by
 unfold ZF at hk;split at hk
 ·exact .inl ⟨rfl,hk⟩
 ·rename_i r
  rw [nF]at hk;cases ho:S.h.get r with
  | none=>rw [ho]at hk;cases hk
  | some o=>
   rw [ho]at hk;cases o with
   | map es c=>exact .inr ⟨r,es,c,rfl,ho,hk⟩
   | _=>cases hk
 ·cases hk
theorem VR.yI{r:Nat}{v':Value} (h:VR U (.map (some r)) v'):∃L,U r=some L/\v'= .map (some L.b):=by
 cases h with
 | flat h=>simp [bH]at h
 | map h=>exact⟨_,h,rfl⟩
theorem Rel.map (h:Rel P w0 U S w){r:Nat}{es:List MapEntry}{c:Nat} (ho:S.obj r=some (.map es c)){L:Loc} (hL:U r=some L):∃es',w0.heap.size<=L.b/\w.heap[L.b]? =some (.map es' c)/\eH U es es'.toList:=by
 obtain⟨M,es',h1,h2,h3,h4⟩:=h.zK r _ ho;rw [hL]at h1;injection h1 with h1;subst h1;exact⟨es',h2,h3,h4⟩
theorem MA{t:TypeId} (h:nQ P t=true):DH P t=none:=by
 cases hs:DH P t with
 | none=>rfl
 | some fs=>obtain⟨hu,_⟩:=vZ hs;unfold nQ at h;rw [hu]at h;cases h
theorem ZP{t:TypeId} (h:nQ P t=true){a b:Value}{k:Bool->Bool} (hk:xC P t a b k=true):qD P t a b k=true:=by
 unfold xC at hk;split at hk
 ·unfold nR at hk
  simp only [MA h]at hk;cases hk
 ·exact hk
theorem Dw{t:TypeId}{kd:TypeDesc} (hu:P.underlying t=some kd){a b:Value}{k:Bool->Bool} (hk:qD P t a b k=true):∃e,k e=true/\Instr.sameNow kd a b=some e:=by
 unfold qD at hk;rw [hu]at hk;split at hk
 ·rename_i q hq
  injection hq with hq;subst hq;split at hk
  ·rename_i j x l y
   split at hk
   ·rename_i hj
    have:=zM hj;subst this;rw [lT,qL]at hk;exact⟨_,hk,by simp [Instr.sameNow]⟩
   ·cases hk
  ·cases hk
 ·rename_i hq
  injection hq with hq;subst hq;split at hk
  ·rename_i x y
   rw [lT,yJ]at hk
   have e:(x==y)=(x.data.toList==y.data.toList):=by
    rw [Bool.eq_iff_iff,bytes_beq,beq_iff_eq];exact⟨fun h=>by rw [h],fun h=>ByteArray.ext (Array.toList_inj.1 h)⟩
   exact⟨_,hk,by rw [<-e];rfl⟩
  ·cases hk
 ·rename_i hq
  injection hq with hq;subst hq;split at hk
  ·rw [lT]at hk
   exact⟨_,hk,rfl⟩
  ·cases hk
 ·cases hk
noncomputable def findAux (P:Program) (t:TypeId) (key:Value) (k:Option (Nat×MapEntry)->Bool) (es:List MapEntry):Nat->Bool:=
 fD (β:=Nat->Bool) (fun _=>k none) (fun e _ ih i=>xC P t key e.key fun b=>match b with | true=>k (some (i,e)) | false=>cF (Nat.succ i) ih) es
def XT (i:Nat) (l l':List MapEntry) (r:Option (Nat×MapEntry)) (r':Option (Nat×Value)):Prop:=
 (r=none/\r'=none)\/∃j e e',r=some (i+j,e)/\l[j]? =some e/\l'[j]? =some e'/\r'=some (i+j,e'.val)
theorem eH.cons_inv{e:MapEntry}{l l':List MapEntry} (h:eH U (e::l) l'):∃e' t',l'=e'::t'/\FT U e e'/\eH U l t':=by
 cases l' with
 | nil=>have:=h.1;simp at this
 | cons e' t'=>exact⟨e',t',rfl,h.2 0 e e' rfl rfl,by simpa using h.1,fun k x y a b=>h.2 (k+1) x y (by simpa using a) (by simpa using b)⟩
theorem XT.step{i:Nat}{e e':MapEntry}{l l':List MapEntry}{r:Option (Nat×MapEntry)}{r':Option (Nat×Value)} (h:XT (i+1) l l' r r'):XT i (e::l) (e'::l') r r':=by
 rcases h with h | ⟨j,x,x',h1,h2,h3,h4⟩
 ·exact .inl h
 ·exact .inr ⟨j+1,x,x',by rw [h1];congr 2;omega,by simpa using h2,by simpa using h3,by rw [h4];congr 2;omega⟩
theorem WL{t:TypeId}{kd:TypeDesc} (hp:nQ P t=true) (hu:P.underlying t=some kd){key:Value}{k:Option (Nat×MapEntry)->Bool}:∀(l l':List MapEntry) (i:Nat),findAux P t key k l i=true->eH U l l'->
 ∃r r',k r=true/\Instr.findNow kd key l' i=some r'/\XT i l l' r r':=by
 intro l;induction l with
 | nil=>
  intro l' i hk hl;have:l'=[]:=List.eq_nil_of_length_eq_zero (by simpa using hl.1.symm);subst this;exact⟨none,none,hk,rfl,.inl ⟨rfl,rfl⟩⟩
 | cons e l ih=>
  intro l' i hk hl;obtain⟨e',t',rfl,he,ht⟩:=hl.cons_inv;obtain⟨b,hb,hs⟩:=Dw hu (ZP hp (show xC P t key e.key (fun b=>match b with | true=>k (some (i,e)) | false=>cF (Nat.succ i) (findAux P t key k l))=true from hk));rw [<-he.1]at hs;cases b with
  | true=>exact⟨_,_,hb,by simp only [Instr.findNow,hs];rfl,.inr ⟨0,e,e',rfl,rfl,rfl,rfl⟩⟩
  | false=>
   simp only [bI]at hb;obtain⟨r,r',h1,h2,h3⟩:=ih t' (i+1) hb ht;exact⟨r,r',h1,by simp only [Instr.findNow,hs,h2],h3.step⟩
theorem SW{t:TypeId}{fs:List Field} (hp:DH P t=some fs){key:Value} (hkey:lP key=true){xs:Array Value} (hx:key= .agg xs){k:Option (Nat×MapEntry)->Bool}:∀(l l':List MapEntry) (i:Nat),
 findAux P t key k l i=true->eH U l l'->∃r r',k r=true/\(∀w,(Instr.findAsking t key l' i).run P w= .ok r' w)/\XT i l l' r r':=by
 intro l;induction l with
 | nil=>
  intro l' i hk hl;have:l'=[]:=List.eq_nil_of_length_eq_zero (by simpa using hl.1.symm);subst this;exact⟨none,none,hk,fun w=>rfl,.inl ⟨rfl,rfl⟩⟩
 | cons e l ih=>
  intro l' i hk hl;obtain⟨e',t',rfl,he,ht⟩:=hl.cons_inv;have hk:xC P t key e.key (fun b=>match b with | true=>k (some (i,e)) | false=>cF (Nat.succ i) (findAux P t key k l))=true:=hk
  have hk:nR P t key e.key (fun b=>match b with | true=>k (some (i,e)) | false=>cF (Nat.succ i) (findAux P t key k l))=true:=by
   unfold xC at hk;split at hk
   ·exact hk
   ·unfold qD at hk
    rw [(vZ hp).1]at hk;cases hk
  obtain⟨b,hb,hs,_⟩:=DL (U:=U) hk (VR.lP hkey) (VR.lP he.2.1);rw [<-he.1]at hs;cases b with
  | true=>exact⟨_,_,hb,fun w=>by simp [Instr.findAsking,hs],.inr ⟨0,e,e',rfl,rfl,rfl,rfl⟩⟩
  | false=>
   simp only [bI]at hb;obtain⟨r,r',h1,h2,h3⟩:=ih t' (i+1) hb ht;exact⟨r,r',h1,fun w=>by simp [Instr.findAsking,hs,h2],h3.step⟩
theorem sO{t:TypeId}{key:Value} (h:FB P t key=true):lP key=true/\(nQ P t=true\/nQ P t=false/\∃fs cs,DH P t=some fs/\key= .agg cs/\fs.length<=cs.toList.length):=by
 unfold FB at h;split at h
 ·rename_i hf
  refine⟨hf,?_⟩;split at h
  ·exact .inl (by assumption)
  ·rename_i h1
   split at h
   ·rename_i fs cs h2
    exact .inr ⟨h1,fs,cs,h2,rfl,Nat.le_of_ble_eq_true h⟩
   ·cases h
 ·cases h
theorem BC{t:TypeId}{key:Value} (hkey:FB P t key=true){l l':List MapEntry}{k:Option (Nat×MapEntry)->Bool} (hk:PZ P t key l k=true) (hl:eH U l l'):
 ∃r r',k r=true/\(∀w,(Instr.findKey t key l').run P w= .ok r' w)/\XT 0 l l' r r':=by
 have hk:findAux P t key k l 0=true:=hk;obtain⟨hf,hp | ⟨_,fs,cs,hs,hc,_⟩⟩:=sO hkey
 ·cases hu:P.underlying t with
  | none=>unfold nQ at hp;rw [hu]at hp;cases hp
  | some kd=>
   obtain⟨r,r',h1,h2,h3⟩:=WL hp hu l l' 0 hk hl;exact⟨r,r',h1,fun w=>run_findKey hu h2,h3⟩
 ·obtain⟨r,r',h1,h2,h3⟩:=SW hs hf hc l l' 0 hk hl
  refine⟨r,r',h1,fun w=>?_,h3⟩;have hu:=(vZ hs).1;cases l' with
  | nil=>
   have h2:=h2 w;simp only [Instr.findAsking,Sem.run_pure]at h2;injection h2 with h2;rw [<-h2];exact run_findKey hu rfl
  | cons e l'=>
   simp only [Instr.findKey,Sem.run_bind,run_underlying hu,Result.andThen_ok];have:Instr.findNow (.struct (P.fieldsOf t)) key (e::l') 0=none:=by simp [Instr.findNow,Instr.sameNow]
   rw [this];exact h2 w
theorem FU{t:TypeId} (hp:nQ P t=true) (em:Bool) (n:Nat) (v:Value) (w:World):(Instr.checkKey em (n+1) t v).run P w= .ok () w:=by
 unfold nQ at hp;split at hp<;>first | (cases hp;done) | (rename_i hu;cases v<;>simp [Instr.checkKey,run_underlying hu])
theorem Dx (em:Bool) (n:Nat) (cs:Array Value) (w:World):∀(fs:List Field) (i:Nat),qK P i fs=true->i+fs.length<=cs.toList.length->
 (forIn fs PUnit.unit (fun f (_:PUnit)=>do
  if f.name≠ "_" then Instr.checkKey em (n+1) f.type (<-part f.type cs f.offset)
  pure (ForInStep.yield PUnit.unit):Field->PUnit->Sem (ForInStep PUnit))).run P w= .ok PUnit.unit w:=by
 intro fs;induction fs with
 | nil=>intro i _ _;rfl
 | cons f fs ih=>
  intro i hp hl;simp only [qK,Bool.and_eq_true,beq_iff_eq,bne_iff_ne]at hp;obtain⟨⟨⟨hname,hoff⟩,hpl⟩,hrest⟩:=hp;simp only [List.length_cons]at hl;have hlt:i<cs.toList.length:=by omega
  have hg:cs.toList[i]? =some cs.toList[i]:=List.getElem?_eq_getElem hlt;simp only [List.forIn_cons,Sem.run_bind,hname,ne_eq,not_false_eq_true,if_true,hoff,FV hpl hg,Result.andThen_ok,FU hpl,Sem.run_pure];exact ih (i+1) hrest (by omega)
theorem gG{t:TypeId}{key:Value} (hkey:FB P t key=true) (em:Bool) (w:World):(Instr.checkKey em 10000 t key).run P w= .ok () w:=by
 obtain⟨hf,hp | ⟨_,fs,cs,hs,rfl,hlen⟩⟩:=sO hkey
 ·exact FU hp em 9999 key w
 ·obtain⟨hu,h2,h3,_,_⟩:=vZ hs
  show(Instr.checkKey em (9999+1) t (.agg cs)).run P w=_;unfold Instr.checkKey;simp only [Sem.run_bind,run_underlying hu,Result.andThen_ok];have:=Dx (P:=P) em 9998 cs w fs 0 h3 (by omega);rw [<-h2,Array.forIn_toList]at this;rw [this];rfl
end maps
section maps
variable{P:Program}{w0:World}{U:Rn}{S:St}{w:World}
theorem FW{n:Nat}{a b:Value} (ha:bH a=true) (hb:bH b=true) (h:Instr.sameBits n a b=true):a=b:=by
 cases a<;>first | (simp [bH]at ha;done) | skip
 all_goals (cases b<;>first | (simp [bH]at hb;done) | (simp [Instr.sameBits]at h;done) | skip)
 all_goals first
  | rfl
  | (simp [Instr.sameBits]at h;simp [h];done)
  | (rw [Instr.sameBits,bytes_beq]at h;rw [h];done)
  | (rename_i x y;cases x<;>cases y<;>first | rfl | (simp [bH]at ha;done) | (simp [bH]at hb;done))
theorem FX{n:Nat}{a b:Value} (ha:lP a=true) (hb:lP b=true) (h:Instr.sameBits (n+1) a b=true):a=b:=by
 by_cases hA:∃x,a= .agg x
 ·obtain⟨x,rfl⟩:=hA
  cases b with
  | agg y=>
   simp only [Instr.sameBits,Bool.and_eq_true,beq_iff_eq]at h;obtain⟨hs,h⟩:=h;have ha:∀v∈x.toList,bH v=true:=List.all_eq_true.1 ha;have hb:∀v∈y.toList,bH v=true:=List.all_eq_true.1 hb;have hs:x.toList.length=y.toList.length:=hs
   have h:∀(l m:List Value),l.length=m.length->(∀v∈l,bH v=true)->(∀v∈m,bH v=true)->((l.zip m).all fun(a,b)=>Instr.sameBits n a b)=true->l=m:=by
    intro l;induction l with
    | nil=>intro m hm _ _ _;exact(List.eq_nil_of_length_eq_zero (by simpa using hm.symm)).symm
    | cons a l ih=>
     intro m hm h1 h2 h3;cases m with
     | nil=>simp at hm
     | cons b m=>
      simp only [List.zip_cons_cons,List.all_cons,Bool.and_eq_true]at h3;rw [FW (h1 a (.head _)) (h2 b (.head _)) h3.1,ih m (by simpa using hm) (fun v hv=>h1 v (.tail _ hv)) (fun v hv=>h2 v (.tail _ hv)) h3.2]
   rw [Array.toList_inj.1 (h _ _ hs ha hb (by assumption))]
  | _=>simp [Instr.sameBits]at h
 ·have fa:bH a=true:=by cases a<;>first | exact ha | exact absurd ⟨_,rfl⟩ hA
  by_cases hB:∃x,b= .agg x
  ·obtain⟨x,rfl⟩:=hB
   cases a<;>first | (simp [Instr.sameBits]at h;done) | exact absurd ⟨_,rfl⟩ hA
  ·have fb:bH b=true:=by cases b<;>first | exact hb | exact absurd ⟨_,rfl⟩ hB
   exact FW fa fb h
theorem eH.Ig{l l':List MapEntry} (h:eH U l l'){i:Nat}{e e' x:MapEntry} (hi:l[i]? =some e) (hi':l'[i]? =some e') (f:MapEntry->MapEntry) (hx:FT U x (f e')):eH U (l.set i x) (l'.modify i f):=by
 refine⟨by simp [h.1],fun k a b ha hb=>?_⟩;rw [List.getElem?_set]at ha;rw [List.getElem?_modify]at hb;by_cases hk:i=k
 ·subst hk
  have:=(List.getElem?_eq_some_iff.1 hi).1;rw [if_pos rfl,if_pos this]at ha;rw [hi']at hb;simp at ha hb;subst ha hb;exact hx
 ·rw [if_neg hk]at ha
  cases hl:l'[k]? with
  | none=>rw [hl]at hb;cases hb
  | some y=>rw [hl]at hb;simp [hk]at hb;subst hb;exact h.2 k a y ha hl
theorem eH.aGT{l l':List MapEntry} (h:eH U l l'){i:Nat}{e e':MapEntry} (hi:l[i]? =some e) (hi':l'[i]? =some e') (f:MapEntry->MapEntry) (hx:FT U e (f e')):eH U l (l'.modify i f):=by
 have:=h.Ig hi hi' f hx
 have e1:l.set i e=l:=by
  apply List.ext_getElem?;intro k;rw [List.getElem?_set];split
  ·rename_i hk;subst hk;split
   ·exact hi.symm
   ·rename_i hl;exact absurd (List.getElem?_eq_some_iff.1 hi).1 hl
  ·rfl
 rwa [e1]at this
theorem eH.push{l l':List MapEntry} (h:eH U l l'){e e':MapEntry} (he:FT U e e'):eH U (l++[e]) (l'++[e']):=by
 refine⟨by simp [h.1],fun k a b ha hb=>?_⟩;by_cases hk:k<l.length
 ·rw [List.getElem?_append_left hk]at ha
  rw [List.getElem?_append_left (by rw [<-h.1];exact hk)]at hb;exact h.2 k a b ha hb
 ·rw [List.getElem?_append_right (by omega)]at ha
  rw [List.getElem?_append_right (by rw [<-h.1];omega),<-h.1]at hb
  have:k-l.length=0:=by
   have:=(List.getElem?_eq_some_iff.1 ha).1;simpa using this
  rw [this]at ha hb;simp at ha hb;subst ha hb;exact he
theorem eH.erase{l l':List MapEntry} (h:eH U l l') (i:Nat):eH U (l.eraseIdx i) (l'.eraseIdx i):=by
 refine⟨by simp [List.length_eraseIdx,h.1],fun k a b ha hb=>?_⟩;rw [List.getElem?_eraseIdx]at ha hb;split at ha
 ·rename_i hk;rw [if_pos hk]at hb;exact h.2 k a b ha hb
 ·rename_i hk;rw [if_neg hk]at hb;exact h.2 _ a b ha hb
theorem sW{t kt et:TypeId} (h:FH P t=some (kt,et)):P.underlying t=some (.map kt et):=by
 unfold FH at h;split at h
 ·rename_i hu;injection h with h;injection h with h1 h2;subst h1 h2;exact hu
 ·cases h
theorem OK{t:TypeId}{z:Value} (h:zeroV P t=some z) (w:World):(zeroValue t).run P w= .ok z w:=by
 unfold zeroV at h;cases hi:P.info? t with
 | none=>rw [hi]at h;cases h
 | some i=>rw [hi]at h;simp [zeroValue,Tj hi,show i.zero=some z from h]
theorem VR.key{kt:TypeId}{key key':Value} (h:VR U key key') (hk:FB P kt key=true):key'=key:=h.Dy (sO hk).1
theorem JH (h:Rel P w0 U S w){t:TypeId}{x x' ix ix':Value}{ok:Bool}{K:VK} (hk:HN P t x ix ok S K=true) (hx:VR U x x') (hi:VR U ix ix'):
 ∃v v',K v S=true/\VR U v v'/\(Instr.lookup t x' ix' ok).run P w= .ok v' w:=by
 unfold HN at hk;split at hk
 ·rename_i kt et hm
  have hu:=sW hm;split at hk
  ·rename_i zero hkey hz
   rw [hi.key hkey]
   have main:∀(es:List MapEntry) (es':Array MapEntry),eH U es es'.toList->PZ P kt ix es (fun r=>match r with
    | some (_,e)=>match(generalizing:=false) ok with | true=>K (.tuple ⟨[e.val,.bool true]⟩) S | false=>K e.val S
    | none=>match lP zero with
     | true=>match(generalizing:=false) ok with | true=>K (.tuple ⟨[zero,.bool false]⟩) S | false=>K zero S
     | false=>false)=true->
    ∃v v',K v S=true/\VR U v v'/\(do
     Instr.checkKey es'.isEmpty 10000 kt ix
     let(v,o)<-match<-Instr.findKey kt ix es'.toList with
      | some (_,v)=>pure (v,true)
      | none=>pure (<-zeroValue et,false)
     pure (if ok then .tuple #[v,.bool o]else v):Sem Value).run P w= .ok v' w:=by
    intro es es' hes hk;obtain⟨r,r',hk,hrun,hr⟩:=BC hkey hk hes;rcases hr with ⟨rfl,rfl⟩ | ⟨j,e,e',rfl,h1,h2,rfl⟩
    ·simp only at hk
     split at hk
     ·rename_i hfz
      have XS:VR U zero zero:=VR.lP hfz;cases ok with
      | true=>exact⟨_,_,hk,.oI (.cons XS (.cons (.flat rfl) (.nil U))),by simp [gG hkey,hrun,OK hz]⟩
      | false=>exact⟨_,_,hk,XS,by simp [gG hkey,hrun,OK hz]⟩
     ·cases hk
    ·have hv:=(hes.2 j e e' h1 h2).2.2.2
     cases ok with
     | true=>exact⟨_,_,hk,.oI (.cons hv (.cons (.flat rfl) (.nil U))),by simp [gG hkey,hrun]⟩
     | false=>exact⟨_,_,hk,hv,by simp [gG hkey,hrun]⟩
   rcases zC hk with ⟨rfl,hk2⟩ | ⟨r,es,c,rfl,ho,hk2⟩
   ·cases hx.of_flat rfl
    obtain⟨v,v',h1,h2,h3⟩:=main [] #[] ⟨rfl,by simp⟩ hk2;refine⟨v,v',h1,h2,?_⟩;rw [<-h3];simp [Instr.lookup,run_underlying hu];rfl
   ·obtain⟨L,hL,rfl⟩:=hx.yI
    obtain⟨es',_,hb,hes⟩:=h.map ho hL;obtain⟨v,v',h1,h2,h3⟩:=main es es' hes hk2;refine⟨v,v',h1,h2,?_⟩;rw [<-h3];simp [Instr.lookup,run_underlying hu,MapKept.run_getObj_map hb];rfl
  ·cases hk
 ·cases hk
theorem Rel.KG (h:Rel P w0 U S w){r:Nat}{es:List MapEntry}{c:Nat} (ho:S.obj r=some (.map es c)){L:Loc} (hL:U r=some L){o:Obj} (hb:w.heap[L.b]? =some o) (hbase:w0.heap.size<=L.b){es2:List MapEntry}{SX:Array MapEntry}{c2:Nat} (he:eH U es2 SX.toList)
 (hob:∃es' c',o= .map es' c'):∃w',(setObj L.b (.map SX c2)).run P w= .ok () w'/\Rel P w0 U (S.set r (.map es2 c2)) w'/\Stp U w U w':=by
 obtain⟨es',c',rfl⟩:=hob;obtain⟨r1,r2⟩:=h.aAo (o':= .map es2 c2) ho rfl rfl rfl hL hbase rfl (.map SX c2) (fun hh=>⟨L,SX,hL,hbase,hh,he⟩);exact⟨_,MapKept.run_setObj_map _ hb,r1,r2⟩
theorem XU{a b:Value} (h:Instr.sameBits 10000 a b=true) (w:World):(Instr.keyThatStays a b).run P w= .ok b w:=by simp [Instr.keyThatStays,h]
theorem CG (h:Rel P w0 U S w){t:TypeId}{m m' key key' x x':Value}{k:St->Bool} (hk:vD P t m key x S k=true) (hm:VR U m m') (hkey':VR U key key') (hx:VR U x x'):
 ∃S' w',k S'=true/\Rel P w0 U S' w'/\Stp U w U w'/\(Instr.mapUpdate t m' key' x').run P w= .ok () w':=by
 unfold vD at hk;split at hk
 ·rename_i kt et hmt
  have hu:=sW hmt;split at hk
  ·rename_i hkey
   rw [hkey'.key hkey];rcases zC hk with ⟨rfl,hk2⟩ | ⟨r,es,c,rfl,ho,hk2⟩
   ·cases hk2
   ·obtain⟨L,hL,rfl⟩:=hm.yI
    obtain⟨es',hbase,hb,hes⟩:=h.map ho hL;have hk:=hk2;simp only at hk;obtain⟨q,q',hk,hrun,hr⟩:=BC hkey hk hes;rcases hr with ⟨rfl,rfl⟩ | ⟨j,e,e',rfl,h1,h2,rfl⟩
    ·simp only [jJ,bI,fS]at hk
     obtain⟨w',hw,r1,r2⟩:=h.KG (P:=P) ho hL hb hbase (es2:=es++[{key:=key,val:=x,born:=c}]) (SX:=es'.push {key:=key,val:=x',born:=c}) (c2:=c+1)
      (by rw [Array.toList_push];exact hes.push ⟨rfl,(sO hkey).1,rfl,hx⟩) ⟨_,_,rfl⟩
     exact⟨_,w',hk,r1,r2,by simp [Instr.mapUpdate,run_underlying hu,MapKept.run_getObj_map hb,gG hkey,hrun,hw]⟩
    ·simp only [Nat.zero_add]at hk
     split at hk
     ·rename_i hsb
      rw [SY,fS]at hk;have hrel:=hes.2 j e e' h1 h2;have hee:e.key=key:=FX hrel.2.1 (sO hkey).1 hsb
      obtain⟨w',hw,r1,r2⟩:=h.KG (P:=P) ho hL hb hbase (es2:=es.set j {e with val:=x}) (SX:=es'.modify j fun e=>{e with key:=key,val:=x'}) (c2:=c)
       (by rw [Array.toList_modify];exact hes.Ig h1 h2 _ ⟨hee.symm,hrel.2.1,hrel.2.2.1,hx⟩) ⟨_,_,rfl⟩
      refine⟨_,w',hk,r1,r2,?_⟩;have h2':es'[j]? =some e':=by simpa using h2
      have:Instr.sameBits 10000 e'.key key=true:=by rw [hrel.1];exact hsb
      simp [Instr.mapUpdate,run_underlying hu,MapKept.run_getObj_map hb,gG hkey,hrun,h2',XU this,hw]
     ·cases hk
  ·cases hk
 ·cases hk
theorem Rel.same (h:Rel P w0 U S w){O:St} (ho:∀j,S.obj j=O.obj j) (hn:S.n=O.n):Rel P w0 U O w:=
 ⟨h.RH,fun i o hi=>h.zK i o ((ho i).trans hi),fun i hi=>h.dom i (by omega),fun i o hi=>by rw [<-hn];exact h.lt i o ((ho i).trans hi),h.loc,
  fun i j a b L M hij ha hb=>h.sep i j a b L M hij ((ho i).trans ha) ((ho j).trans hb),
  fun j vs e olds hj i hi=>by rw [<-hn];obtain⟨h1,h2⟩:=h.old j vs e olds ((ho j).trans hj) i hi;exact⟨h1,fun o hx=>h2 o ((ho i).trans hx)⟩,h.base⟩
theorem RI (h:Rel P w0 U S w){t:TypeId}{m m' key key':Value}{K:VK} (hk:OF P t m key S K=true) (hm:VR U m m') (hkey':VR U key key'):
 ∃v S' v' w',K v S'=true/\VR U v v'/\Rel P w0 U S' w'/\Stp U w U w'/\(Instr.mapEntry t m' key').run P w= .ok v' w':=by
 unfold OF at hk;split at hk
 ·rename_i kt et hmt
  have hu:=sW hmt;split at hk
  ·rename_i zero hkey hz
   rw [hkey'.key hkey];rcases zC hk with ⟨rfl,hk2⟩ | ⟨r,es,c,rfl,ho,hk2⟩
   ·cases hk2
   ·obtain⟨L,hL,rfl⟩:=hm.yI
    obtain⟨es',hbase,hb,hes⟩:=h.map ho hL;have hk:=hk2;simp only at hk;obtain⟨q,q',hk,hrun,hr⟩:=BC hkey hk hes;rcases hr with ⟨rfl,rfl⟩ | ⟨j,e,e',rfl,h1,h2,rfl⟩
    ·simp only at hk
     split at hk
     ·rename_i hfz
      simp only [jJ,bI,fS]at hk
      obtain⟨w',hw,r1,r2⟩:=h.KG (P:=P) ho hL hb hbase (es2:=es++[{key:=key,val:=zero,born:=c}]) (SX:=es'.push {key:=key,val:=zero,born:=c}) (c2:=c+1)
       (by rw [Array.toList_push];exact hes.push ⟨rfl,(sO hkey).1,rfl,VR.lP hfz⟩) ⟨_,_,rfl⟩
      exact⟨_,_,_,w',hk,.oI (.cons (VR.lP hfz) (.cons (.flat rfl) (.nil U))),r1,r2,by simp [Instr.mapEntry,run_underlying hu,MapKept.run_getObj_map hb,gG hkey,hrun,OK hz,hw];rfl⟩
     ·cases hk
    ·dsimp only at hk
     split at hk
     ·rename_i hsb
      have hrel:=hes.2 j e e' h1 h2;have hee:e.key=key:=FX hrel.2.1 (sO hkey).1 hsb
      obtain⟨w',hw,r1,r2⟩:=h.KG (P:=P) ho hL hb hbase (es2:=es) (SX:=es'.modify j fun e=>{e with key:=key}) (c2:=c)
       (by rw [Array.toList_modify];exact hes.aGT h1 h2 _ ⟨hee.symm,hrel.2.1,hrel.2.2.1,hrel.2.2.2⟩) ⟨_,_,rfl⟩
      have hset:S.set r (.map es c)=S.set r (.map es c):=rfl;refine⟨_,S,_,w',hk,.oI (.cons hrel.2.2.2 (.cons (.flat rfl) (.nil U))),?_,r2,?_⟩
      ·exact r1.same (fun j=>by
        rw [vT];split
        ·rename_i e;subst e;exact ho.symm
        ·rfl) rfl
      ·have h2':es'[j]? =some e':=by simpa using h2
       have:Instr.sameBits 10000 e'.key key=true:=by rw [hrel.1];exact hsb
       simp [Instr.mapEntry,run_underlying hu,MapKept.run_getObj_map hb,gG hkey,hrun,h2',XU this,hw,goInt,hrel.2.2.1]
     ·cases hk
  ·cases hk
 ·cases hk
end maps
section maps
variable{P:Program}{w0:World}{U:Rn}{S:St}{w:World}
noncomputable def ZQ (n:Nat) (k:Nat->MapEntry->Bool) (es:List MapEntry):Nat->Bool:=
 fD (β:=Nat->Bool) (fun _=>false) (fun e _ ih i=>match Nat.beq e.born n with | true=>k i e | false=>cF (Nat.succ i) ih) es
theorem JI{n:Nat}{k:Nat->MapEntry->Bool}:∀(l l':List MapEntry) (i:Nat),ZQ n k l i=true->eH U l l'->
 ∃j e e',k (i+j) e=true/\l[j]? =some e/\l'[j]? =some e'/\l'.findIdx? (fun e=>(e.born:Int)==(n:Int))=some j:=by
 intro l;induction l with
 | nil=>intro l' i hk _;cases hk
 | cons e l ih=>
  intro l' i hk hl;obtain⟨e',t',rfl,he,ht⟩:=hl.cons_inv;have hk:(match(generalizing:=false) Nat.beq e.born n with | true=>k i e | false=>cF (Nat.succ i) (ZQ n k l))=true:=hk;split at hk
  ·rename_i hb
   have hb:=Nat.eq_of_beq_eq_true hb;exact⟨0,e,e',hk,rfl,rfl,by simp [List.findIdx?_cons,he.2.2.1,hb]⟩
  ·rename_i hb
   have hb:=Nat.ne_of_beq_eq_false hb;rw [bI]at hk;obtain⟨j,x,x',h1,h2,h3,h4⟩:=ih t' (i+1) hk ht;refine⟨j+1,x,x',by rw [<-h1];congr 1;omega,by simpa using h2,by simpa using h3,?_⟩;have:((e'.born:Int)==(n:Int))=false:=by rw [he.2.2.1,beq_eq_false_iff_ne];omega
   simp [List.findIdx?_cons,this,h4]
theorem MB (h:Rel P w0 U S w){t:TypeId}{m m' s s' x x':Value}{k:St->Bool} (hk:FS m s x S k=true) (hm:VR U m m') (hs:VR U s s') (hx:VR U x x'):
 ∃S' w',k S'=true/\Rel P w0 U S' w'/\Stp U w U w'/\(Instr.entryStore t m' s' x').run P w= .ok () w':=by
 unfold FS at hk;split at hk
 ·rename_i kd n
  cases hs.of_flat rfl;rcases zC hk with ⟨rfl,hk2⟩ | ⟨r,es,c,rfl,ho,hk2⟩
  ·cases hk2
  ·obtain⟨L,hL,rfl⟩:=hm.yI
   obtain⟨es',hbase,hb,hes⟩:=h.map ho hL;have hk:=hk2;simp only at hk;obtain⟨j,e,e',hk,h1,h2,h3⟩:=JI es es'.toList 0 hk hes;rw [SY,fS,Nat.zero_add]at hk;have hrel:=hes.2 j e e' h1 h2
   obtain⟨w',hw,r1,r2⟩:=h.KG (P:=P) ho hL hb hbase (es2:=es.set j {e with val:=x}) (SX:=es'.modify j fun e=>{e with val:=x'}) (c2:=c)
    (by rw [Array.toList_modify];exact hes.Ig h1 h2 _ ⟨hrel.1,hrel.2.1,hrel.2.2.1,hx⟩) ⟨_,_,rfl⟩
   refine⟨_,w',hk,r1,r2,?_⟩;have h3':es'.findIdx? (fun e=>(e.born:Int)==(n:Int))=some j:=by rw [<-h3,<-List.findIdx?_toArray,Array.toArray_toList]
   have hai:(asInt (.int kd (Int.ofNat n))).run P w= .ok (n:Int) w:=by simp [asInt,asIntOf]
   simp only [Instr.entryStore,Sem.run_bind,MapKept.run_getObj_map hb,Result.andThen_ok,hai,h3',hw]
 ·cases hk
theorem WM (h:Rel P w0 U S w){ts:Array TypeId}{t:TypeId}{m m' key key':Value}{k:St->Bool} (hk:ZG P ts.toList m key S k=true) (hm:VR U m m') (hkey':VR U key key'):
 ∃S' w',k S'=true/\Rel P w0 U S' w'/\Stp U w U w'/\(Builtin.delete_ ts t #[m',key']).run P w= .ok (.tuple #[]) w':=by
 unfold ZG at hk;split at hk
 ·rename_i t0 ts' hts
  have h0:ts[0]? =some t0:=by have:=congrArg (·[0]?) hts;simpa using this
  split at hk
  ·rename_i kt et hmt
   have hu:=sW hmt;split at hk
   ·rename_i hkey
    rw [hkey'.key hkey];rcases zC hk with ⟨rfl,hk2⟩ | ⟨r,es,c,rfl,ho,hk2⟩
    ·cases hm.of_flat rfl
     exact⟨S,w,hk2,h,.refl U w,by simp [Builtin.delete_,h0,run_underlying hu,gG hkey]⟩
    ·obtain⟨L,hL,rfl⟩:=hm.yI
     obtain⟨es',hbase,hb,hes⟩:=h.map ho hL;have hk:=hk2;simp only at hk;obtain⟨q,q',hk,hrun,hr⟩:=BC hkey hk hes;rcases hr with ⟨rfl,rfl⟩ | ⟨j,e,e',rfl,h1,h2,rfl⟩
     ·simp only at hk
      obtain⟨w',hw,r1,r2⟩:=h.KG (P:=P) ho hL hb hbase (es2:=es) (SX:=es') (c2:=c) hes ⟨_,_,rfl⟩;refine⟨S,w',hk,?_,r2,by simp [Builtin.delete_,h0,run_underlying hu,MapKept.run_getObj_map hb,gG hkey,hrun,hw]⟩
      exact r1.same (fun j=>by
       rw [vT];split
       ·rename_i e;subst e;exact ho.symm
       ·rfl) rfl
     ·simp only [Nat.zero_add,Ot,fS]at hk
      obtain⟨w',hw,r1,r2⟩:=h.KG (P:=P) ho hL hb hbase (es2:=es.eraseIdx j) (SX:=es'.eraseIdxIfInBounds j) (c2:=c)
       (by
        have:(es'.eraseIdxIfInBounds j).toList=es'.toList.eraseIdx j:=by
         have hlt:j<es'.size:=by have:=(List.getElem?_eq_some_iff.1 h2).1;simpa using this
         simp [Array.eraseIdxIfInBounds,hlt]
        rw [this];exact hes.erase j) ⟨_,_,rfl⟩
      exact⟨_,w',hk,r1,r2,by simp [Builtin.delete_,h0,run_underlying hu,MapKept.run_getObj_map hb,gG hkey,hrun,hw]⟩
   ·cases hk
  ·cases hk
 ·cases hk
theorem FY (h:Rel P w0 U S w){t:TypeId}{K:VK} (hk:qW S (.map [] 0) (fun i S=>K (.map (some i)) S)=true):
 ∃U' v S' v' w',K v S'=true/\(Instr.makeMap t none).run P w= .ok v' w'/\VR U' v v'/\Rel P w0 U' S' w'/\Stp U w U' w':=by
 rw [gD]at hk;obtain⟨r1,r2⟩:=h.new (.map [] 0) (.map #[] 0) ⟨w.heap.size,0,0,0⟩ rfl (fun U' _ hU=>⟨_,#[],hU,h.base.size,by show(w.heap.push _)[w.heap.size]? =_;simp,rfl,by simp⟩) (by simp [gF.olds]);exact⟨_,_,_,_,_,hk,by simp [Instr.makeMap,newObj];rfl,.map (Rn.iJ U S.n _),r1,r2⟩
theorem SZ (h:Rel P w0 U S w){t:TypeId}{r r':Value}{K:VK} (hr:VR U r r')
 (hk:(match(generalizing:=false) r,FH P t with | .int _ _,some _=>qW S (.map [] 0) (fun i S=>K (.map (some i)) S) | _,_=>false)=true):
 ∃U' v S' v' w',K v S'=true/\(Instr.makeMap t (some r')).run P w= .ok v' w'/\VR U' v v'/\Rel P w0 U' S' w'/\Stp U w U' w':=by
 split at hk
 ·rename_i hm
  have hu:=sW hm;cases hr.of_flat rfl;obtain⟨U',v,S',v',w',h1,h2,h3⟩:=FY (t:=t) h hk;refine⟨U',v,S',v',w',h1,?_,h3⟩;simp [Instr.makeMap,run_underlying hu,asInt,asIntOf]at h2 ⊢;exact h2
 ·cases hk
theorem aAp (n:Nat) (l:List Nat):aAm n l=l.contains n:=by
 induction l with
 | nil=>rfl
 | cons m l ih=>
  show dW (Nat.beq m n) true (aAm n l)=_;rw [ih,List.contains_cons];cases hb:Nat.beq m n with
  | true=>have:=Nat.eq_of_beq_eq_true hb;subst this;simp [dW]
  | false=>have:=Nat.ne_of_beq_eq_false hb;have h2:(n==m)=false:=by simpa using Ne.symm this
           rw [h2];rfl
theorem Tk (seen:List Nat) (k:List MapEntry->Bool) (es:List MapEntry):Ds seen es k=k (es.filter fun e=> !seen.contains e.born):=by
 induction es generalizing k with
 | nil=>rfl
 | cons e es ih=>
  show dW (aAm e.born seen) (Ds seen es k) (Ds seen es fun t=>k (e::t))=_;rw [aAp,ih,ih,List.filter_cons];cases hb:seen.contains e.born<;>rfl
theorem eH.mem'{l l':List MapEntry} (h:eH U l l'){e':MapEntry} (he:e'∈l'):∃e,e∈l/\FT U e e':=by
 obtain⟨k,hk,rfl⟩:=List.getElem_of_mem he;have hl:k<l.length:=by rw [h.1];exact hk
 exact⟨l[k],List.getElem_mem hl,h.2 k _ _ (List.getElem?_eq_getElem hl) (List.getElem?_eq_getElem hk)⟩
theorem eH.mem{l l':List MapEntry} (h:eH U l l'){e:MapEntry} (he:e∈l):∃e',e'∈l'/\FT U e e':=by
 obtain⟨k,hk,rfl⟩:=List.getElem_of_mem he;have hl:k<l'.length:=by rw [<-h.1];exact hk
 exact⟨l'[k],List.getElem_mem hl,h.2 k _ _ (List.getElem?_eq_getElem hk) (List.getElem?_eq_getElem hl)⟩
theorem WN (h:Rel P w0 U S w){t:TypeId}{x x':Value}{K:VK} (hk:ZH P t x S K=true) (hx:VR U x x'):
 ∃U' v S' v' w',K v S'=true/\(Instr.range t x').run P w= .ok v' w'/\VR U' v v'/\Rel P w0 U' S' w'/\Stp U w U' w':=by
 unfold ZH at hk;split at hk
 ·rename_i kt et hm
  have hu:=sW hm;split at hk
  ·cases hx.of_flat rfl
   rw [gD]at hk;obtain⟨r1,r2⟩:=h.new (.iter none 0 [] 0) (.mapIter none 0 #[] 0) ⟨w.heap.size,0,0,0⟩ rfl (fun U' _ hU=>⟨_,0,#[],0,⟨hU,rfl⟩,h.base.size,by show(w.heap.push _)[w.heap.size]? =_;simp⟩) (by simp [gF.olds]);exact⟨_,_,_,_,_,hk,run_range_nilMap w t _ _ hu,.ptr (Rn.iJ U S.n _),r1,r2⟩
  ·rename_i r
   obtain⟨L,hL,rfl⟩:=hx.yI;rw [nF]at hk;cases ho:S.h.get r with
   | none=>rw [ho]at hk;cases hk
   | some o=>
    rw [ho]at hk;cases o with
    | map es c=>
     obtain⟨es',hbase,hb,hes⟩:=h.map ho hL;have hk:qW S (.iter (some r) c [] c) (fun i S=>K (.pointer (some ⟨i,0,none⟩)) S)=true:=hk;rw [gD]at hk
     obtain⟨r1,r2⟩:=h.new (.iter (some r) c [] c) (.mapIter (some L.b) c #[] c) ⟨w.heap.size,0,0,0⟩ rfl
      (fun U' he hU=>⟨_,L,⟨hU,rfl⟩,h.base.size,he _ _ hL,by show(w.heap.push _)[w.heap.size]? =_;simp⟩) (by simp [gF.olds])
     exact⟨_,_,_,_,_,hk,run_range_map w t _ _ L.b es' c hu hb,.ptr (Rn.iJ U S.n _),r1,r2⟩
    | _=>cases hk
  ·cases hk
 ·cases hk
theorem Dz (h:Rel P w0 U S w){ty:TypeId}{x x':Value}{K:VK} (hk:Tg x S K=true) (hx:VR U x x'):
 ∃v S' v' w',K v S'=true/\(Instr.next x' false ty).run P w= .ok v' w'/\VR U v v'/\Rel P w0 U S' w'/\Stp U w U w':=by
 unfold Tg at hk;split at hk
 ·rename_i i
  obtain⟨_,L,hL,rfl⟩:=hx.yG;rw [nF]at hk;cases ho:S.h.get i with
  | none=>rw [ho]at hk;cases hk
  | some o=>
   rw [ho]at hk;cases o with
   | iter m since seen last=>
    cases m with
    | none=>
     have hk:K (.tuple ⟨[.bool false]⟩) S=true:=hk;obtain⟨L',a,b,c,⟨h1,hs⟩,h2,h3⟩:=h.zK i _ ho;rw [hL]at h1;injection h1 with h1;subst h1;refine⟨_,S,_,w,hk,?_,.oI (.cons (.flat rfl) (.nil U)),h,.refl U w⟩;rw [hs];simp only [Instr.next,getObj,Sem.run_bind,Sem.run,h3,Result.andThen];rfl
    | some r=>
     obtain⟨L',M,⟨h1,hs⟩,h2,h3,h4⟩:=h.zK i _ ho;rw [hL]at h1;injection h1 with h1;subst h1;rw [hs]
     have hk:oV S.h r (fun o=>match o with
      | .map es c=>match allB (fun e=>Nat.blt e.born since) es,Nat.ble since last with
       | true,true=>Ds seen es fun l=>match l with
        | []=>K (.tuple ⟨[.bool false]⟩) S
        | e::t=>allB (fun e=>uM seen [e.born] fun seen=>pV S i (.iter (some r) since seen c) fun S=>K (.tuple ⟨[.bool true,e.key,e.val]⟩) S) (e::t)
       | _,_=>false
      | _=>false)=true:=hk
     rw [nF]at hk;cases ho2:S.h.get r with
     | none=>rw [ho2]at hk;cases hk
     | some o2=>
      rw [ho2]at hk;cases o2 with
      | map es c=>
       obtain⟨es',hbase,hb,hes⟩:=h.map ho2 h3;dsimp only at hk;split at hk
       ·rename_i hold hsc
        rw [mQ]at hold;have hsc:=Nat.le_of_ble_eq_true hsc
        have hold':∀x∈es'.toList,x.born<since:=by
         intro x hx;obtain⟨e,he,hr⟩:=hes.mem' hx;have:=List.all_eq_true.1 hold e he;rw [hr.2.2.1];exact Nat.le_of_ble_eq_true this
        rw [Tk]at hk
        have hleft:∀e'∈(leftOf es' ⟨seen⟩).toList,∃e,e∈es.filter (fun e=> !seen.contains e.born)/\FT U e e':=by
         intro e' he';unfold leftOf at he';rw [Array.toList_filter]at he';obtain⟨h5,h6⟩:=List.mem_filter.1 he';obtain⟨e,he,hr⟩:=hes.mem' h5;refine⟨e,List.mem_filter.2 ⟨he,?_⟩,hr⟩;rw [hr.2.2.1]at h6;simpa using h6
        rcases run_next_at (P:=P) w ty L.b M.b since last ⟨seen⟩ es' c h4 hb hold' hsc with ⟨h0,hrun⟩ | ⟨e',he',w1,hw1,hrun⟩
        ·have hnil:es.filter (fun e=> !seen.contains e.born)=[]:=by
          cases hf:es.filter (fun e=> !seen.contains e.born)with
          | nil=>rfl
          | cons e t=>
           exfalso;have hm:e∈es.filter (fun e=> !seen.contains e.born):=by rw [hf];exact .head _
           obtain⟨h5,h6⟩:=List.mem_filter.1 hm;obtain⟨e',he',hr⟩:=hes.mem h5
           have:e'∈(leftOf es' ⟨seen⟩).toList:=by
            unfold leftOf;rw [Array.toList_filter];refine List.mem_filter.2 ⟨he',?_⟩;rw [hr.2.2.1];simpa using h6
           have hz:(leftOf es' ⟨seen⟩).toList=[]:=List.eq_nil_of_length_eq_zero (by simpa using h0);rw [hz]at this;cases this
         rw [hnil]at hk;exact⟨_,S,_,w,hk,hrun,.oI (.cons (.flat rfl) (.nil U)),h,.refl U w⟩
        ·obtain⟨e,he,hr⟩:=hleft e' he'
         have hall:(es.filter (fun e=> !seen.contains e.born)).all (fun e=>uM seen [e.born] fun seen=>pV S i (.iter (some r) since seen c) fun S=>K (.tuple ⟨[.bool true,e.key,e.val]⟩) S)=true:=by
          cases hf:es.filter (fun e=> !seen.contains e.born)with
          | nil=>rfl
          | cons x t=>rw [hf]at hk;simp only [mQ]at hk;exact hk
         have hk:=List.all_eq_true.1 hall e he;rw [jJ,fS]at hk
         have aFE:Rel P w0 U S w1/\Stp U w U w1/\w1.heap=w.heap:=by
          rcases hw1 with rfl | rfl
          ·exact⟨h,.refl _ _,rfl⟩
          ·exact⟨h.drew,.drew _ _,rfl⟩
         obtain⟨hr1,hs1,hh1⟩:=aFE
         obtain⟨r1,r2⟩:=hr1.aAo (o':= .iter (some r) since (seen++[e.born]) c) ho rfl rfl rfl hL h2 rfl (.mapIter (some M.b) since ((⟨seen⟩:Array Nat).push e'.born) c)
          (fun hnew=>⟨L,M,⟨hL,hs⟩,h2,h3,by rw [hnew,hr.2.2.1];simp⟩)
         exact⟨_,_,_,_,hk,hrun,.oI (.cons (.flat rfl) (.cons (by rw [hr.1];exact .lP hr.2.1) (.cons hr.2.2.2 (.nil U)))),r1,hs1.trans r2⟩
       ·cases hk
      | _=>cases hk
   | _=>cases hk
 ·cases hk
theorem Ih{l:List Nat}{k:Nat->Bool} (hk:Th l k=true):∃b,l.getLast?=some b/\k b=true:=by
 induction l with
 | nil=>cases hk
 | cons n t ih=>
  cases t with
  | nil=>exact⟨n,rfl,hk⟩
  | cons m t=>
   obtain⟨b,h1,h2⟩:=ih hk;exact⟨b,by rw [List.getLast?_cons_cons];exact h1,h2⟩
theorem ZR (h:Rel P w0 U S w){x x':Value}{K:VK} (hk:Id x S K=true) (hx:VR U x x'):
 ∃v v',K v S=true/\VR U v v'/\(Instr.entry x').run P w= .ok v' w:=by
 unfold Id at hk;split at hk
 ·rename_i i
  obtain⟨_,L,hL,rfl⟩:=hx.yG;rw [nF]at hk;cases ho:S.h.get i with
  | none=>rw [ho]at hk;cases hk
  | some o=>
   rw [ho]at hk;cases o with
   | iter m since seen last=>
    cases m with
    | none=>cases hk
    | some r=>
     obtain⟨L',M,⟨h1,hs⟩,h2,h3,h4⟩:=h.zK i _ ho;rw [hL]at h1;injection h1 with h1;subst h1;rw [hs]
     replace hk:oV S.h r (fun o=>match o with
      | .map es c=>match Nat.beq c last with
       | true=>Th seen fun b=>Te b es fun _ e=>K (.tuple ⟨[e.key,e.val]⟩) S
       | false=>false
      | _=>false)=true:=hk
     rw [nF]at hk;cases ho2:S.h.get r with
     | none=>rw [ho2]at hk;cases hk
     | some o2=>
      rw [ho2]at hk;cases o2 with
      | map es c=>
       obtain⟨es',hbase,hb,hes⟩:=h.map ho2 h3;dsimp only at hk;split at hk
       ·rename_i hcl
        obtain rfl:=Nat.eq_of_beq_eq_true hcl;obtain⟨b,hlast,hk⟩:=Ih hk;have hk:ZQ b (fun _ e=>K (.tuple ⟨[e.key,e.val]⟩) S) es 0=true:=hk;obtain⟨j,e,e',hk,he,he',hf⟩:=JI es es'.toList 0 hk hes;have hr:=hes.2 j e e' he he';refine⟨_,_,hk,.oI (.cons (.lP hr.2.1) (.cons hr.2.2.2 (.nil U))),?_⟩;have hback:(⟨seen⟩:Array Nat).back?=some b:=by simpa using hlast
        have hfind:es'.find? (·.born==b)=some e':=by
         rw [<-Array.find?_toList]
         have hf2:es'.toList.findIdx? (fun e=>e.born==b)=some j:=by
          rw [<-hf];congr 1;funext x;rw [Bool.eq_iff_iff,beq_iff_eq,beq_iff_eq];omega
         obtain⟨hlt,hp,hbef⟩:=List.findIdx?_eq_some_iff_getElem.1 hf2;rw [List.find?_eq_some_iff_getElem]
         have hgj:es'.toList[j]=e':=by
          have:=List.getElem?_eq_getElem hlt;rw [this]at he';injection he'
         exact⟨by rw [<-hgj];exact hp,j,hlt,hgj,fun k hk=>by simpa using hbef k hk⟩
        simp only [Instr.entry,getObj,Sem.run_bind,Sem.run,h4,hb,Result.andThen,hback,bne_self_eq_false,Bool.false_eq_true,if_false,hfind];rw [hr.1];rfl
       ·cases hk
      | _=>cases hk
   | _=>cases hk
 ·cases hk
theorem FZ{t as xT:TypeId}{v:Value}{d:TypeDesc}{ok:Bool} (hd:P.underlying as=some d) (hi:∀ms,d≠ .interface ms) (ht:t=as):
 (Instr.typeAssert (.iface t v) xT as ok).run P w= .ok (if ok then .tuple #[v,.bool true]else v) w:=by
 subst ht;simp only [Instr.typeAssert,Sem.run_bind,run_underlying hd,Result.andThen_ok];cases d<;>first | exact absurd rfl (hi _) | (cases ok<;>simp)
end maps
section app
variable{P:Program}{w0:World}{U:Rn}{S:St}{w:World}
theorem MC (h:Rel P w0 U S w){size n:Nat}{x x':Value}{k:List Value->Bool} (hk:DI S size n x k=true) (hx:VR U x x'):
 ∃cs cs',k cs=true/\jP U cs cs'/\cs'.length=n*size/\(Builtin.firstCells size n x').run P w= .ok ⟨cs'⟩ w/\(Builtin.firstCells size n x').run P w.drew= .ok ⟨cs'⟩ w.drew:=by
 unfold DI at hk;split at hk
 ·cases hx.of_flat rfl
  split at hk
  ·exact⟨_,[],hk,.nil U,by simp,rfl,rfl⟩
  ·cases hk
 ·rename_i i o sp len c
  split at hk
  ·rcases hx.jT with ⟨L,c',hL,rfl,_⟩ | ⟨⟨s1,h1⟩,rfl,rfl,a,c',rfl⟩
   ·exact⟨_,[],hk,.nil U,by simp,by simp [Builtin.firstCells,loadCells,loadCellsFrom],by simp [Builtin.firstCells,loadCells,loadCellsFrom]⟩
   ·exact⟨_,[],hk,.nil U,by simp,by simp [Builtin.firstCells,loadCells,loadCellsFrom],by simp [Builtin.firstCells,loadCells,loadCellsFrom]⟩
  ·rename_i n
   split at hk
   ·cases hk
   ·rename_i hsp
    rcases hx.jT with ⟨L,c',hL,rfl,_⟩ | ⟨⟨s1,h1⟩,rfl,rfl,a,c',rfl⟩
    ·obtain⟨vs,e',ck,ho,hle,hk⟩:=sM hk
     obtain⟨l',hl',hlen,hc⟩:=h.zB ho hL hle;exact⟨_,l',hk,hl',hlen,run_loadCells (P:=P) _ l' hlen hc,run_loadCells (P:=P) (w:=w.drew) _ l' hlen hc⟩
    ·exact absurd h1 (hsp s1)
 ·rename_i s
  cases hx.of_flat rfl;split at hk
  ·rw [vY]at hk
   split at hk
   ·rename_i hle
    rw [ZO]at hk
    have hd:((s.extract 0 n).data.map fun b=>Value.int .u8 (b.toNat:Int))=⟨(s.data.toList.take n).map fun b=>Value.int .u8 (b.toNat:Int)⟩:=by
     apply Array.toList_inj.1;simp
    refine⟨_,_,hk,.flat (by intro v hv;obtain⟨b,_,rfl⟩:=List.mem_map.1 hv;rfl),by simp at hle ⊢;omega,?_,?_⟩
    ·simp only [Builtin.firstCells,Sem.run_pure];rw [hd]
    ·simp only [Builtin.firstCells,Sem.run_pure];rw [hd]
   ·cases hk
  ·cases hk
 ·cases hk
theorem QD{x x':Value}{k:Nat->Bool} (hk:FC x k=true) (hx:VR U x x'):∃n,k n=true/\(∀w,(Builtin.lenOf x').run P w= .ok n w)/\∀size w,(Builtin.firstCells size 0 x').run P w= .ok #[] w:=by
 unfold FC at hk;split at hk
 ·rename_i n c
  have f0:∀(a:Addr) (n c size:Nat) (w:World),(Builtin.firstCells size 0 (.slice (some a) n c)).run P w= .ok #[] w:=fun a n c size w=>by simp [Builtin.firstCells,loadCells,loadCellsFrom]
  cases hx with
  | flat hf=>
   rename_i base;cases base with
   | none=>exact⟨n,hk,fun w=>rfl,fun _ w=>rfl⟩
   | some a=>simp [bH]at hf
  | slice _=>exact⟨n,hk,fun w=>rfl,fun _ w=>f0 _ _ _ _ w⟩
  | mP _ _ _ _ _=>exact⟨n,hk,fun w=>rfl,fun _ w=>f0 _ _ _ _ w⟩
  | tK=>exact⟨_,hk,fun w=>rfl,fun _ w=>f0 _ _ _ _ w⟩
  | tL _=>exact⟨_,hk,fun w=>rfl,fun _ w=>f0 _ _ _ _ w⟩
 ·rename_i s
  cases hx.of_flat rfl;rw [iW]at hk;exact⟨_,hk,fun w=>rfl,fun _ w=>by simp [Builtin.firstCells]⟩
 ·cases hk
theorem XV{d:Option TypeDesc} (h:WK d=true):(∃e,d=some (.slice e))\/d=some .string:=by
 unfold WK at h;split at h
 ·exact .inl ⟨_,rfl⟩
 ·exact .inr rfl
 ·cases h
section runs
variable{ts:Array TypeId}{ty t tx e:TypeId}{i:TypeInfo}{z:Value}{base:Option Addr}{sLen sCap n:Nat}{x:Value}{news olds:List Value}{w1:World}
theorem DM (h0:ts[0]? =some t) (h1:ts[1]? =some tx) (ht:P.underlying t=some (.slice e)) (hx:WK (P.underlying tx)=true) (hi:P.info? e=some i)
 (hlen:∀w,(Builtin.lenOf x).run P w= .ok n w) (hroom:sLen+n<=sCap) (hc:(Builtin.firstCells i.size n x).run P w= .ok ⟨news⟩ w)
 (hst:∀a,base=some a->(storeCells (a.add (sLen*i.size)) news).run P w= .ok () w1) (hno:base=none->w1=w):
 (Builtin.append_ ts ty #[.slice base sLen sCap,x]).run P w= .ok (.slice base (sLen+n) sCap) w1:=by
 rcases XV hx with ⟨e',hx⟩ | hx
 all_goals cases base with
  | none=>cases hno rfl;simp [Builtin.append_,h0,h1,run_underlying ht,run_underlying hx,sizeOf,typeInfo,hi,hlen,hroom,hc]
  | some a=>simp [Builtin.append_,h0,h1,run_underlying ht,run_underlying hx,sizeOf,typeInfo,hi,hlen,hroom,hc,hst a rfl]
theorem DN (h0:ts[0]? =some t) (h1:ts[1]? =some tx) (ht:P.underlying t=some (.slice e)) (hx:WK (P.underlying tx)=true) (hi:P.info? e=some i) (hz:i.zero=some z)
 (hlen:∀w,(Builtin.lenOf x).run P w= .ok n w) (hroom:sCap<sLen+n) (hbytes:(sLen+n)*(i.bytes+1)<=1099511627776) (hold:(Builtin.firstCells i.size sLen (.slice base sLen sCap)).run P w.drew= .ok ⟨olds⟩ w.drew)
 (hc:(Builtin.firstCells i.size n x).run P w.drew= .ok ⟨news⟩ w.drew):
 (Builtin.append_ ts ty #[.slice base sLen sCap,x]).run P w= .ok (.slice (some ⟨w.heap.size,0,none⟩) (sLen+n) (grownCap w (sLen+n) sCap e))
  (w.drew.alloc (.cells ⟨(olds++news)++(List.replicate (grownCap w (sLen+n) sCap e-(sLen+n)) z.cells.toList).flatten⟩ e)):=by
 have hn:¬(sLen+n<=sCap):=by omega
 have hb:(sLen+n)*i.bytes<=1099511627776:=by rw [Nat.mul_succ]at hbytes;omega
 have hb2:sLen+n<=1099511627776:=by rw [Nat.mul_succ]at hbytes;omega
 have h63':¬(9223372036854775807<((sLen:Int)+(n:Int))):=by omega
 have h48:=growslice_fits (bytes:=i.bytes) hroom (by omega);have h48':¬(281474976710656<Builtin.nextslicecap (sLen+n) sCap*i.bytes):=by omega
 have hzz:∀m,Builtin.zeroCells z.cells m=⟨(List.replicate m z.cells.toList).flatten⟩:=by
  intro m;by_cases hne:z.cells.toList=[]
  ·have:z.cells= #[]:=Array.toList_inj.1 hne
   apply Array.toList_inj.1;simp [Builtin.zeroCells,this]
  ·exact CF z.cells.toList z.cells rfl m hne
 rcases XV hx with ⟨e',hx⟩ | hx<;>
  simp [Builtin.append_,h0,h1,run_underlying ht,run_underlying hx,sizeOf,typeInfo,zeroValue,hi,hz,hlen,hn,h63',h48',Question.forced,hc,hold,newRow,grownCap,hzz]
end runs
end app
section app
variable{P:Program}{w0:World}{U:Rn}{S:St}{w:World}
theorem Rel.stale (h:Rel P w0 U S w){b:Nat}{vs:List Value}{e:TypeId}{olds:List Nat} (ho:S.obj b=some (.cells vs e (.grown olds))):Rel P w0 U (S.set b (.cells vs e .stale)) w:=by
 have hcase:∀j x,(S.set b (.cells vs e .stale)).obj j=some x->(j=b/\x= .cells vs e .stale)\/(j≠b/\S.obj j=some x):=fun j x hx=>by
  rw [vT]at hx;by_cases e:j=b
  ·rw [if_pos e]at hx;injection hx with hx;exact .inl ⟨e,hx.symm⟩
  ·rw [if_neg e]at hx;exact .inr ⟨e,hx⟩
 have hsh:∀(j:Nat) (y:gF),y.sN=false->S.obj j=some y->Tn b j (.cells vs e (.grown olds)) y->y.reads=true:=by
  intro j y hd hy hs;rcases hs with ⟨h1,_⟩ | h1 | h1
  ·cases h1
  ·obtain⟨_,h2⟩:=h.old b vs e olds ho j h1
   rcases h2 y hy with h3 | ⟨ws,t',h3,_⟩
   ·rw [h3]at hd;cases hd
   ·rw [h3];rfl
  ·cases y with
   | cells us t k=>
    cases k with
    | grown l=>
     obtain⟨_,h2⟩:=h.old j us t l hy b h1;rcases h2 _ ho with h3 | ⟨ws,t',h3,_⟩
     ·cases h3
     ·injection h3 with _ _ h3;cases h3
    | _=>cases h1
   | _=>cases h1
 refine⟨h.RH,fun j x hx=>?_,h.dom,fun j x hx=>?_,h.loc,fun i j x y L M hij hx hy hdx hdy hL hM hb=>?_,fun j us t l hj i hi=>?_,h.base⟩
 ·rcases hcase j x hx with ⟨rfl,rfl⟩ | ⟨_,hx⟩
  ·obtain⟨L,cs,t,fz,h1,h2,h3,h4⟩:=h.zK _ _ ho
   exact⟨L,cs,t,fz,h1,h2,h3,h4.1,h4.2.2.2⟩
  ·exact h.zK j x hx
 ·rcases hcase j x hx with ⟨rfl,_⟩ | ⟨_,hx⟩
  ·exact h.lt _ _ ho
  ·exact h.lt j x hx
 ·rcases hcase i x hx with ⟨e1,e2⟩ | ⟨e1,hx1⟩<;>rcases hcase j y hy with ⟨f1,f2⟩ | ⟨f1,hy1⟩
  ·exact absurd (e1.trans f1.symm) hij
  ·subst e1 e2
   exact .inl ⟨rfl,hsh j y hdy hy1 (h.sep i j _ y L M hij ho hy1 rfl hdy hL hM hb)⟩
  ·subst f1 f2
   have:=h.sep j i _ x M L (Ne.symm hij) ho hx1 rfl hdx hM hL hb.symm;exact .inl ⟨hsh i x hdx hx1 this,rfl⟩
  ·exact h.sep i j x y L M hij hx1 hy1 hdx hdy hL hM hb
 ·rcases hcase j _ hj with ⟨_,e2⟩ | ⟨e1,hj⟩
  ·injection e2 with _ _ e2;cases e2
  ·obtain⟨h1,h2⟩:=h.old j us t l hj i hi
   refine⟨h1,fun x hx=>?_⟩;rcases hcase i x hx with ⟨rfl,rfl⟩ | ⟨_,hx⟩
   ·rcases h2 _ ho with h3 | ⟨ws,t',h3,_⟩
    ·cases h3
    ·injection h3 with _ _ h3;cases h3
   ·exact h2 x hx
theorem Rel.aFF (h:Rel P w0 U S w){b:Nat}{L:Loc} (hL:U b=some L){vs:List Value}{e:TypeId} (ho:S.obj b=some (.cells vs e .stale)){olds:List Nat}
 (holds:∀i∈olds,i<S.n/\∀x,S.obj i=some x->Ea U b vs i x)
 (ZS:∀j x M,S.obj j=some x->x.sN=false->U j=some M->M.b=L.b->j=b\/j∈olds)
 {cs cs':Array Value} {t:TypeId} {fz:Nat×Nat} (hb:w.heap[L.b]? =some (.cells cs t fz)) (hsz:cs'.size=cs.size) (hsame:∀j,j<L.s+vs.length->cs'[j]? =cs[j]?)
 {e2:TypeId} {s2:Nat} {new:List Value} (hlen:L.s+vs.length<=s2+new.length) (hnew:∀(j:Nat) (v:Value),new[j]? =some v->∃v',cs'[s2+j]? =some v'/\VR U v v')
 (hfz:TA cs.size fz) (hLe:L.e=cs.size) (hm:bQ P e2=some L.m) (he2:e=e2) (hbase:w0.heap.size<=L.b):
 Rel P w0 (U.put S.n ⟨L.b,s2,L.e,L.m⟩) (S.new (.cells new e2 (.grown (b::olds)))) (w.putObj L.b (.cells cs' t fz))/\Stp U w (U.put S.n ⟨L.b,s2,L.e,L.m⟩) (w.putObj L.b (.cells cs' t fz)):=by
 have hnone:=h.dom S.n (Nat.le_refl _);have he:Ext U (U.put S.n ⟨L.b,s2,L.e,L.m⟩):=Rn.BD hnone;have hget:=DO (w:=w) (x:= .cells cs' t fz) hb
 have hput:∀j M,U.put S.n ⟨L.b,s2,L.e,L.m⟩ j=some M->(j=S.n/\M=⟨L.b,s2,L.e,L.m⟩)\/(j≠S.n/\U j=some M):=fun j M hj=>by
  unfold Rn.put at hj;by_cases e:j=S.n
  ·rw [if_pos e]at hj;injection hj with hj;exact .inl ⟨e,hj.symm⟩
  ·rw [if_neg e]at hj;exact .inr ⟨e,hj⟩
 have mT:∀j x,(S.new (.cells new e2 (.grown (b::olds)))).obj j=some x->(j=S.n/\x= .cells new e2 (.grown (b::olds)))\/(j≠S.n/\S.obj j=some x):=fun j x hx=>by
  rw [DP]at hx;by_cases e:j=S.n
  ·rw [if_pos e]at hx;injection hx with hx;exact .inl ⟨e,hx.symm⟩
  ·rw [if_neg e]at hx;exact .inr ⟨e,hx⟩
 have hblt:=h.lt b _ ho
 have hte:t=e2:=by
  obtain⟨L',cs0,t0,fz0,k1,k2,_,k4⟩:=h.zK b _ ho;rw [hL]at k1;injection k1 with k1;subst k1;rw [hb]at k2;injection k2 with k2;injection k2 with _ k2 _;rw [k2,<-he2];exact k4.2.2
 refine⟨⟨fun g hg=>let⟨M,h1,h2⟩:=h.RH g hg;⟨M,he _ _ h1,h2⟩,fun j x hx=>?_,fun j hj=>?_,fun j x hx=>?_,fun j M hj=>?_,fun i j x y M N hij hx hy hdx hdy hM hN RG=>?_,fun j us t' l hj i hi=>?_,?_⟩,he,⟨by rw [putObj_size];omega,fun c _ hc=>qX (Ne.symm (hc b L hL))⟩,fun j M hj=>?_⟩
 ·rcases mT j x hx with ⟨rfl,rfl⟩ | ⟨e1,hx1⟩
  ·refine⟨_,cs',t,fz,Rn.iJ _ _ _,hget,fun j v hj=>?_,hbase,by rw [hsz];exact hfz,by rw [hsz];exact hLe,hm,hte⟩
   obtain⟨v',h1,h2⟩:=hnew j v hj;exact⟨v',h1,h2.mono he⟩
  ·cases hd:x.sN with
   | true=>cases x<;>first | trivial | cases hd
   | false=>
    obtain⟨M,hM⟩:=(h.zK j x hx1).loc hd;by_cases hMb:M.b=L.b
    ·
      have hext:∃ws e',x= .cells ws e' .stale/\M.s+ws.length<=L.s+vs.length:=by
       rcases ZS j x M hx1 hd hM hMb with e2 | hin
       ·subst e2
        rw [ho]at hx1;injection hx1 with hx1;rw [hL]at hM;injection hM with hM;subst hM;exact⟨vs,e,hx1.symm,Nat.le_refl _⟩
       ·rcases(holds j hin).2 x hx1 with h3 | ⟨ws,e',h3,h4⟩
        ·rw [h3]at hd;cases hd
        ·exact⟨ws,e',h3,h4 L M hL hM hMb⟩
      obtain⟨ws,e',rfl,hle⟩:=hext;obtain⟨M',cs0,t0,fz0,h1,h2,h3,h4⟩:=h.zK j _ hx1;rw [hM]at h1;injection h1 with h1;subst h1;rw [hMb,hb]at h2;injection h2 with h2;injection h2 with h2 h2a h2b;subst h2 h2a h2b;refine⟨M,cs',t,fz,he _ _ hM,by rw [hMb];exact hget,fun q v hq=>?_,h4⟩;obtain⟨v',g1,g2⟩:=h3 q v hq;have hql:q<ws.length:=(List.getElem?_eq_some_iff.1 hq).1;exact⟨v',(hsame _ (by omega)).trans g1,g2.mono he⟩
    ·exact(h.zK j x hx1).frame he fun M' hM'=>by rw [hM]at hM';injection hM' with hM';subst hM';exact qX hMb
 ·have hj':S.n+1<=j:=hj
  unfold Rn.put;rw [if_neg (by omega)];exact h.dom j (by omega)
 ·rcases mT j x hx with ⟨e1,_⟩ | ⟨_,hx1⟩
  ·subst e1;exact Nat.lt_succ_self _
  ·exact Nat.lt_succ_of_lt (h.lt j x hx1)
 ·rw [putObj_size]
  rcases hput j M hj with ⟨_,rfl⟩ | ⟨_,hM⟩
  ·exact h.loc b L hL
  ·exact h.loc j M hM
 ·rcases mT i x hx with ⟨e1,e2⟩ | ⟨e1,hx1⟩<;>rcases mT j y hy with ⟨f1,f2⟩ | ⟨f1,hy1⟩
  ·exact absurd (e1.trans f1.symm) hij
  ·rcases hput i M hM with ⟨_,rfl⟩ | ⟨e3,_⟩
   ·rcases hput j N hN with ⟨f3,_⟩ | ⟨_,hN1⟩
    ·exact absurd f3 f1
    ·rw [e2]
     rcases ZS j y N hy1 hdy hN1 RG.symm with h5 | h5
     ·exact .inr (.inl (by rw [h5];exact .head _))
     ·exact .inr (.inl (.tail _ h5))
   ·exact absurd e1 e3
  ·rcases hput j N hN with ⟨_,rfl⟩ | ⟨f3,_⟩
   ·rcases hput i M hM with ⟨e3,_⟩ | ⟨_,hM1⟩
    ·exact absurd e3 e1
    ·rw [f2]
     rcases ZS i x M hx1 hdx hM1 RG with h5 | h5
     ·exact .inr (.inr (by rw [h5];exact .head _))
     ·exact .inr (.inr (.tail _ h5))
   ·exact absurd f1 f3
  ·rcases hput i M hM with ⟨e3,_⟩ | ⟨_,hM1⟩
   ·exact absurd e3 e1
   ·rcases hput j N hN with ⟨f3,_⟩ | ⟨_,hN1⟩
    ·exact absurd f3 f1
    ·exact h.sep i j x y M N hij hx1 hy1 hdx hdy hM1 hN1 RG
 ·rcases mT j _ hj with ⟨e1,e2⟩ | ⟨e1,hj1⟩
  ·injection e2 with e2 e3 e4
   injection e4 with e4;subst e1 e2 e4
   have hib:i<S.n/\∀x,S.obj i=some x->Ea U b vs i x:=by
    rcases List.mem_cons.1 hi with h5 | h5
    ·subst h5
     refine⟨hblt,fun x hx=> .inr ⟨vs,e,?_,?_⟩⟩
     ·rw [ho]at hx;injection hx with hx;exact hx.symm
     ·intro L1 M1 g1 g2 _;rw [g1]at g2;injection g2 with g2;subst g2;exact Nat.le_refl _
    ·exact holds i h5
   refine⟨Nat.lt_succ_of_lt hib.1,fun x hx=>?_⟩;rcases mT i x hx with ⟨e5,_⟩ | ⟨e5,hx1⟩
   ·exact absurd e5 (by have:=hib.1;omega)
   ·rcases hib.2 x hx1 with h6 | ⟨ws,e',h6,h7⟩
    ·exact .inl h6
    ·refine .inr ⟨ws,e',h6,fun L1 M1 g1 g2 gb=>?_⟩
     rcases hput _ _ g1 with ⟨_,rfl⟩ | ⟨g3,_⟩
     ·rcases hput _ _ g2 with ⟨g4,_⟩ | ⟨_,g4⟩
      ·exact absurd g4 e5
      ·have:=h7 L M1 hL g4 gb
       simp only;omega
     ·exact absurd rfl g3
  ·obtain⟨h1,h2⟩:=h.old j us t' l hj1 i hi
   refine⟨Nat.lt_succ_of_lt h1,fun x hx=>?_⟩;rcases mT i x hx with ⟨e3,_⟩ | ⟨e3,hx1⟩
   ·omega
   ·rcases h2 x hx1 with h3 | ⟨ws,e',h3,h4⟩
    ·exact .inl h3
    ·refine .inr ⟨ws,e',h3,fun L1 M1 g1 g2 gb=>?_⟩
     rcases hput _ _ g1 with ⟨g3,_⟩ | ⟨_,g3⟩
     ·exact absurd g3 e1
     ·rcases hput _ _ g2 with ⟨g5,_⟩ | ⟨_,g5⟩
      ·exact absurd g5 e3
      ·exact h4 L1 M1 g3 g5 gb
 ·exact⟨h.base.os,h.base.tape,h.base.output,by rw [putObj_size];exact h.base.size,fun k hk=>(qX (by omega)).trans (h.base.block k hk)⟩
 ·rcases hput j M hj with ⟨_,rfl⟩ | ⟨_,hM⟩
  ·exact .inr (.inr ⟨b,L,hL,rfl⟩)
  ·exact .inl hM
end app
section app
variable{P:Program}{w0:World}{U:Rn}{S:St}{w:World}
theorem QE{t e:TypeId} (h:isSlice P t=some e):P.underlying t=some (.slice e):=eS h
theorem GA (n:Nat) (z:List Value){m:Nat} (h:z.length=m):(List.replicate n z).flatten.length=n*m:=by simp [h]
theorem Rel.fresh (h:Rel P w0 U S w){cs cs' zl:List Value} (hcs:jP U cs cs'){need size g:Nat}{elem:TypeId} (hl:cs'.length=need*size) (hm:bQ P elem=some size) (hz:zl.length=size) (hpos:0<size) (hg:need<=g){olds:List Nat}
 (hold:∀i∈olds,i<S.n/\∀x,S.obj i=some x->x= .dead\/∃ws e,x= .cells ws e .stale):
 ∃U',VR U' (.slice (some ⟨S.n,0,some 0⟩) need need) (.slice (some ⟨w.heap.size,0,none⟩) need g)/\Rel P w0 U' (S.new (.cells cs elem (.grown olds))) (w.drew.alloc (.cells ⟨cs'++(List.replicate (g-need) zl).flatten⟩ elem))/\
  Stp U w U' (w.drew.alloc (.cells ⟨cs'++(List.replicate (g-need) zl).flatten⟩ elem)):=by
 obtain⟨r1,r2⟩:=h.drew.Dv (more:=(List.replicate (g-need) zl).flatten) hcs elem hm (0,0) (by intro x _;omega) olds hold;have hL:=Rn.iJ U S.n ⟨w.drew.heap.size,0,(cs'++(List.replicate (g-need) zl).flatten).length,size⟩;refine⟨_,?_,r1,(Stp.drew U w).trans r2⟩
 have hlen:(cs'++(List.replicate (g-need) zl).flatten).length=g*size:=by
  rw [List.length_append,hl,GA _ _ hz,<-Nat.add_mul]
  congr 1
  omega
 exact VR.mP (o:=0) (n:=need) (c:=need) (c':=g) hL hg (Nat.le_refl _) (by simp only [hlen];omega) hpos
theorem ZT (h:Rel P w0 U S w){ts:Array TypeId}{ty t tx e:TypeId}{i:TypeInfo}{size:Nat} (h0:ts[0]? =some t) (h1:ts[1]? =some tx) (ht:P.underlying t=some (.slice e)) (WO:WK (P.underlying tx)=true) (hi:P.info? e=some i) (hsize:i.size=size)
 {base:Option Addr} {sLen sCap n:Nat} {s' _x x':Value} {new new':List Value} {K:VK} (hs:VR U (.slice base sLen sCap) s') (hlen:∀w,(Builtin.lenOf x').run P w= .ok n w) (hn:jP U new new')
 (hc:(Builtin.firstCells size n x').run P w= .ok ⟨new'⟩ w) (hfit:sLen+n<=sCap) (hk:OG size new base sLen sCap (sLen+n) S K=true):
 ∃U' v S' v' w',K v S'=true/\(Builtin.append_ ts ty #[s',x']).run P w= .ok v' w'/\VR U' v v'/\Rel P w0 U' S' w'/\Stp U w U' w':=by
 unfold OG at hk;split at hk
 ·rename_i b o sp
  split at hk
  ·rename_i hsp hone
   rw [bI]at hk;rw [mQ]at hone;have hone:=MD hn (List.all_eq_true.1 hone);rcases hs.jT with ⟨L,c',hL,rfl,hcap⟩ | ⟨⟨_,hsp1⟩,_⟩
   ·obtain⟨S',w',hk,r1,r2,hrun⟩:=tN h hk hL hn hone
    refine⟨U,_,S',_,w',hk,DM h0 h1 ht WO hi hlen (by rcases hcap with ⟨_,e⟩ | ⟨_,e,_⟩<;>omega) (by rw [hsize];exact hc) (fun a ha=>?_) (fun e=>by cases e),?_,r1,r2⟩
    ·injection ha with ha
     rw [<-ha,nE,hsize,Nat.add_assoc];exact hrun
    ·rcases hcap with ⟨rfl,rfl⟩ | ⟨rfl,e1,e2,e3,e4⟩
     ·exact .slice hL
     ·exact .mP hL e1 hfit e3 e4
   ·rw [hsp1]at hsp;cases hsp
  ·cases hk
 ·cases hk
theorem WP (h:Rel P w0 U S w){ts:Array TypeId}{ty t tx e:TypeId}{i:TypeInfo}{z:Value}{size:Nat} (h0:ts[0]? =some t) (h1:ts[1]? =some tx) (ht:P.underlying t=some (.slice e)) (WO:WK (P.underlying tx)=true) (hi:P.info? e=some i) (hsize:i.size=size) (hz:i.zero=some z) (hzs:z.cells.size=size) (hpos:0<size)
 {base:Option Addr} {sLen sCap n:Nat} {s' _x x':Value} {new new':List Value} {K:VK} (hs:VR U (.slice base sLen sCap) s') (hlen:∀w,(Builtin.lenOf x').run P w= .ok n w) (hn:jP U new new') (hnl:new'.length=n*size)
 (hc:(Builtin.firstCells size n x').run P w= .ok ⟨new'⟩ w) (hcD:(Builtin.firstCells size n x').run P w.drew= .ok ⟨new'⟩ w.drew) (hfit:¬sLen+n<=sCap) (hbytes:(sLen+n)*(i.bytes+1)<=1099511627776)
 (hk:LT P e size new base sLen (sLen+n) S K=true):
 ∃U' v S' v' w',K v S'=true/\(Builtin.append_ ts ty #[s',x']).run P w= .ok v' w'/\VR U' v v'/\Rel P w0 U' S' w'/\Stp U w U' w':=by
 have hm:bQ P e=some size:=by unfold bQ;rw [hi];simp [hsize]
 have hzl:z.cells.toList.length=size:=by simpa using hzs
 subst hsize;unfold LT at hk;split at hk
 ·
   cases hs.of_flat rfl;split at hk
   ·simp only [FD,jJ,gD,List.nil_append]at hk
    rw [Nat.zero_add]at hk hfit hbytes;have hrun:=DN (w:=w) (ty:=ty) (base:=none) (sLen:=0) (sCap:=sCap) (olds:=[]) h0 h1 ht WO hi hz hlen (by omega) (by rw [Nat.zero_add];exact hbytes) rfl hcD;rw [Nat.zero_add,List.nil_append]at hrun;obtain⟨U',r0,r1,r2⟩:=h.fresh hn hnl hm hzl hpos (grownCap_ge w n sCap e) (olds:=[]) (by simp);exact⟨U',_,_,_,_,hk,hrun,r0,r1,r2⟩
   ·cases hk
 ·
   rename_i b o;rcases hs.jT with ⟨L,c',hL,rfl,⟨_,rfl⟩ | ⟨hsp,_⟩⟩ | ⟨⟨_,hsp⟩,_⟩
   ·obtain⟨vs,e',ck,ho,hle,hk⟩:=sM hk
    obtain⟨old',hl',hol,hcell⟩:=h.zB ho hL hle;simp only [FD,jJ,gD]at hk;have hrun:=DN (w:=w) (ty:=ty) (base:=some ⟨L.b,L.s+o,none⟩) (sLen:=sLen) (sCap:=c') (olds:=old') h0 h1 ht WO hi hz hlen (by omega) hbytes (run_loadCells (w:=w.drew) _ old' hol hcell) hcD;obtain⟨U',r0,r1,r2⟩:=h.fresh (hl'.append hn) (by rw [List.length_append,hol,hnl,<-Nat.add_mul]) hm hzl hpos (grownCap_ge w (sLen+n) c' e) (olds:=[]) (by simp);exact⟨U',_,_,_,_,hk,hrun,r0,r1,r2⟩
   ·cases hsp
   ·cases hsp
 ·
   rename_i b o;rcases hs.jT with ⟨L,c',hL,rfl,⟨hsp,_⟩ | ⟨_,hcc,hnc,hend,hmp⟩⟩ | ⟨⟨_,hsp⟩,_⟩
   ·cases hsp
   ·obtain⟨vs,e',ck,ho,hk⟩:=wA hk
    rw [iW]at hk;split at hk
    ·rename_i olds q hbeq hq
     have hvl:=Nat.eq_of_beq_eq_true hbeq;split at hk
     ·rename_i hqs hone hel
      have hqs:=Nat.eq_of_beq_eq_true hqs;subst hqs;have hel:=Nat.eq_of_beq_eq_true hel;rw [mQ]at hone;have hone:=MD hn (List.all_eq_true.1 hone);obtain⟨vs2,e2,ck2,ho2,hle,hk⟩:=sM hk;rw [ho]at ho2;injection ho2 with ho2;injection ho2 with q1 q2 q3;subst q1 q2;obtain⟨old',hl',hol,hcell⟩:=h.zB ho hL hle;simp only [FD,jJ,gD,fS]at hk;obtain⟨cs,t',fz,hb,hcv,hbase,aCq,hLe,hLm,_⟩:=h.cells ho hL;have hLm:L.m=i.size:=by rw [hq]at hLm;injection hLm with hLm;exact hLm.symm
      have hst:=h.stale ho;have hob:(S.set b (.cells vs e' .stale)).obj b=some (.cells vs e' .stale):=by rw [vT,if_pos rfl]
      have hblt:=h.lt b _ ho
      have holds:∀q∈olds,q<S.n/\∀y,(S.set b (.cells vs e' .stale)).obj q=some y->Ea U b vs q y:=by
       intro q hq;obtain⟨g1,g2⟩:=h.old b vs e' olds ho q hq;refine⟨g1,fun y hy=>?_⟩;rw [vT]at hy;split at hy
       ·rename_i eq
        rcases g2 _ (eq▸ho)with g3 | ⟨ws,u,g3,_⟩
        ·cases g3
        ·injection g3 with _ _ g3;cases g3
       ·exact g2 y hy
      by_cases hroom:sLen+n<=c'
      ·
        have aFG:L.s+o+sLen*i.size+new'.length<=cs.size:=by
         rw [hnl,Nat.add_assoc,<-Nat.add_mul,<-hLe];rw [hLm]at hend;have:=Nat.mul_le_mul_right i.size hroom;omega
        have hsc:=tO (P:=P) new' w L.b (L.s+o+sLen*i.size) 0 cs t' fz hb (by simpa using aFG) (fun x hx1 hx2=>aCq x (by simp at hx1 hx2;omega)) hone;simp only [Nat.add_zero]at hsc;have aGU:cs.toList.length=cs.size:=rfl
        have hget:∀j:Nat,(⟨splice (L.s+o+sLen*i.size) new' cs.toList⟩:Array Value)[j]? =if L.s+o+sLen*i.size<=j/\j<L.s+o+sLen*i.size+new'.length then new'[j-(L.s+o+sLen*i.size)]? else cs[j]? :=by
         intro j;have:=nS (L.s+o+sLen*i.size) new' cs.toList (by omega) j;simpa using this
        obtain⟨r1,r2⟩:=hst.aFF (S:=S.set b (.cells vs e' .stale)) hL hob (olds:=olds) holds
         (fun j y M hy hd hM hMb=>by
          rw [vT]at hy;split at hy
          ·rename_i eq;exact .inl eq
          ·rename_i eq
           rcases h.sep b j _ y L M (Ne.symm eq) ho hy rfl hd hL hM hMb.symm with ⟨g1,_⟩ | g1 | g1
           ·cases g1
           ·exact .inr g1
           ·cases y with
            | cells us u kk=>
             cases kk with
             | grown l=>
              obtain⟨_,g2⟩:=h.old j us u l hy b g1;rcases g2 _ ho with g3 | ⟨ws,u',g3,_⟩
              ·cases g3
              ·injection g3 with _ _ g3;cases g3
             | _=>cases g1
            | _=>cases g1)
         (cs':=⟨splice (L.s+o+sLen*i.size) new' cs.toList⟩) hb (by show(splice _ _ _).length=_;rw [vR _ _ _ (by omega)];exact aGU)
         (fun j hj=>by rw [hget,if_neg (by omega)]) (e2:=e) (s2:=L.s+o) (new:=(vs.drop o).take (sLen*i.size)++new)
         (by
          have:=hl'.1;rw [List.length_append];omega)
         (fun j v hj=>by
          have aFH:((vs.drop o).take (sLen*i.size)).length=sLen*i.size:=by rw [hl'.1,hol]
          rw [List.getElem?_append]at hj;rw [hget];split at hj
          ·rename_i hlt
           rw [aFH]at hlt;rw [if_neg (by omega)];rw [List.getElem?_take,if_pos hlt,List.getElem?_drop]at hj;rw [Nat.add_assoc];exact hcv _ _ hj
          ·rename_i hlt
           rw [aFH]at hlt hj;have hjl:=(List.getElem?_eq_some_iff.1 hj).1;have:=hn.1;rw [if_pos (by omega),show L.s+o+j-(L.s+o+sLen*i.size)=j-sLen*i.size by omega];exact hn.get hj)
         aCq hLe (by rw [hLm];exact hm) hel hbase
        refine⟨_,_,_,_,_,hk,DM (w1:=w.putObj L.b (.cells ⟨splice (L.s+o+sLen*i.size) new' cs.toList⟩ t' fz)) h0 h1 ht WO hi hlen hroom hc (fun a ha=>?_) (fun e=>by cases e),?_,r1,?_⟩
        ·injection ha with ha
         rw [<-ha,nE];exact hsc
        ·have hL2:=Rn.iJ U S.n ⟨L.b,L.s+o,L.e,L.m⟩
         exact VR.mP (o:=0) (n:=sLen+n) (c:=sLen+n) (c':=c') hL2 hroom (Nat.le_refl _) hend hmp
        ·exact r2
      ·
        have hrun:=DN (w:=w) (ty:=ty) (base:=some ⟨L.b,L.s+o,none⟩) (sLen:=sLen) (sCap:=c') (olds:=old') h0 h1 ht WO hi hz hlen (by omega) hbytes (run_loadCells (w:=w.drew) _ old' hol hcell) hcD
        obtain⟨U',r0,r1,r2⟩:=hst.fresh (S:=S.set b (.cells vs e' .stale)) (hl'.append hn) (by rw [List.length_append,hol,hnl,<-Nat.add_mul]) hm hzl hpos (grownCap_ge w (sLen+n) c' e) (olds:=b::olds)
         (fun q hq=>by
          rcases List.mem_cons.1 hq with rfl | hq
          ·refine⟨hblt,fun y hy=>?_⟩
           rw [hob]at hy;injection hy with hy;exact .inr ⟨vs,e',hy.symm⟩
          ·obtain⟨g1,g2⟩:=holds q hq
           refine⟨g1,fun y hy=>?_⟩;rcases g2 y hy with g3 | ⟨ws,u,g3,_⟩
           ·exact .inl g3
           ·exact .inr ⟨ws,u,g3⟩)
        exact⟨U',_,_,_,_,hk,hrun,r0,r1,r2⟩
     ·cases hk
    ·cases hk
   ·cases hsp
 ·cases hk
theorem WQ (h:Rel P w0 U S w){ts:Array TypeId}{ty:TypeId}{s s' x x':Value}{K:VK} (hk:DJ P ts.toList s x S K=true) (hs:VR U s s') (hx:VR U x x'):
 ∃U' v S' v' w',K v S'=true/\(Builtin.append_ ts ty #[s',x']).run P w= .ok v' w'/\VR U' v v'/\Rel P w0 U' S' w'/\Stp U w U' w':=by
 unfold DJ at hk;split at hk
 ·rename_i sT xT rest hts
  have h0:ts[0]? =some sT:=by have:=congrArg (·[0]?) hts;simpa using this
  have h1:ts[1]? =some xT:=by have:=congrArg (·[1]?) hts;simpa using this
  split at hk
  ·rename_i elem he WO
   have ht:=eS he;split at hk
   ·rename_i info hi
    split at hk
    ·rename_i size z base sLen sCap hsize hz
     split at hk
     ·rename_i hzs
      have hzs:=Nat.eq_of_beq_eq_true hzs;obtain⟨n,hk,hlen,hf0⟩:=QD (P:=P) hk hx;split at hk
      ·
        split at hk
        ·rename_i hle
         have hle:=Nat.le_of_ble_eq_true hle
         have main:∀base' c',sLen<=c'->s'= .slice base' sLen c'->∃U' v S' v' w',K v S'=true/\(Builtin.append_ ts ty #[s',x']).run P w= .ok v' w'/\VR U' v v'/\Rel P w0 U' S' w'/\Stp U w U' w':=by
          intro base' c' hc' e;refine⟨U,_,S,_,w,hk,?_,hs,h,.refl U w⟩;rw [e];exact DM (w1:=w) h0 h1 ht WO hi hlen (by omega) (hf0 _ w) (fun a _=>by rfl) (fun _=>rfl)
         cases hs with
         | flat _=>exact main _ _ hle rfl
         | slice _=>exact main _ _ hle rfl
         | mP _ _ _ _ _=>exact main _ _ (by omega) rfl
         | tK=>exact main _ _ (by omega) rfl
         | tL _=>exact main _ _ (by omega) rfl
        ·cases hk
      ·obtain⟨new,new',hk,hn,hnl,hc,hcD⟩:=MC h hk hx
       rw [bI]at hk;split at hk
       ·rename_i hb
        have hb:=Nat.le_of_ble_eq_true hb;split at hk
        ·rename_i hfit
         exact ZT (_x:=x) h h0 h1 ht WO hi hsize hs hlen hn hc (Nat.le_of_ble_eq_true hfit) hk
        ·rename_i hfit
         exact WP (_x:=x) h h0 h1 ht WO hi hsize hz hzs (Nat.succ_pos _) hs hlen hn hnl hc hcD (fun e=>by rw [Nat.ble_eq_true_of_le e]at hfit;cases hfit) hb hk
       ·cases hk
     ·cases hk
    ·cases hk
   ·cases hk
  ·cases hk
 ·cases hk
theorem Eb (h:Rel P w0 U S w){ts:Array TypeId}{ty:TypeId}{d d' x x':Value}{K:VK} (hk:Lw P ts.toList d x S K=true) (hd:VR U d d') (hx:VR U x x'):
 ∃v S' v' w',K v S'=true/\(Builtin.copy_ ts ty #[d',x']).run P w= .ok v' w'/\VR U v v'/\Rel P w0 U S' w'/\Stp U w U w':=by
 unfold Lw at hk;split at hk
 ·rename_i dT rest hts
  have h0:ts[0]? =some dT:=by have:=congrArg (·[0]?) hts;simpa using this
  split at hk
  ·rename_i elem he
   have ht:=eS he;split at hk
   ·rename_i size base dLen dCap hsize
    obtain⟨m,hk,hlen,hf0⟩:=QD (P:=P) hk hx;rw [bI]at hk;split at hk
    ·rename_i hmin
     refine⟨_,S,.int .i64 0,w,hk,?_,.flat rfl,h,.refl U w⟩
     have main:∀base' c',(Builtin.copy_ ts ty #[.slice base' dLen c',x']).run P w= .ok (.int .i64 0) w:=by
      intro base' c';cases base' with
      | none=>simp only [Builtin.copy_,List.getElem?_toArray,List.getElem?_cons_zero,List.getElem?_cons_succ,h0,Sem.run_bind,run_underlying ht,Result.andThen_ok,hlen,gK hsize,hmin,hf0,Sem.run_pure,goInt];rfl
      | some a=>simp only [Builtin.copy_,List.getElem?_toArray,List.getElem?_cons_zero,List.getElem?_cons_succ,h0,Sem.run_bind,run_underlying ht,Result.andThen_ok,hlen,gK hsize,hmin,hf0,Sem.run_pure,goInt];rfl
     cases hd with
     | flat _=>exact main _ _
     | slice _=>exact main _ _
     | mP _ _ _ _ _=>exact main _ _
     | tK=>exact main _ _
     | tL _=>exact main _ _
    ·rename_i n' hmin
     obtain⟨new,new',hk,hn,hnl,hc,hcD⟩:=MC h hk hx;split at hk
     ·rename_i i o sp
      split at hk
      ·rename_i hsp hone
       rw [mQ]at hone;have hone:=MD hn (List.all_eq_true.1 hone);rcases hd.jT with ⟨L,c',hL,rfl,_⟩ | ⟨⟨_,hsp1⟩,_⟩
       ·obtain⟨S',w',hk,r1,r2,hrun⟩:=tN h hk hL hn hone
        refine⟨_,S',.int .i64 ((n'+1:Nat):Int),w',hk,?_,.flat rfl,r1,r2⟩;simp only [Builtin.copy_,List.getElem?_toArray,List.getElem?_cons_zero,List.getElem?_cons_succ,h0,Sem.run_bind,run_underlying ht,Result.andThen_ok,hlen,gK hsize,hmin,hc,hrun,Sem.run_pure,goInt]
       ·rw [hsp1]at hsp;cases hsp
      ·cases hk
     ·cases hk
   ·cases hk
  ·cases hk
 ·cases hk
end app
section ops
variable{P:Program}{w0:World}{U:Rn}{S:St}{w:World}
def Out (P:Program) (w0:World) (U:Rn) (w:World) (K:VK) (s:Sem Next):Prop:=
 ∃r U' v S' v' w',K v S'=true/\s.run P w= .ok r w'/\(r= .value v'\/(r= .skip/\v'=undef))/\VR U' v v'/\Rel P w0 U' S' w'/\Stp U w U' w'
theorem Out.here (h:Rel P w0 U S w){K:VK}{s:Sem Value}{v v':Value} (hk:K v S=true) (hv:VR U v v') (hr:s.run P w= .ok v' w):Out P w0 U w K (do pure (.value (<-s))):=
 ⟨_,U,v,S,v',w,hk,by rw [Sem.run_bind,hr];rfl,.inl rfl,hv,h,.refl U w⟩
theorem Out.new{K:VK}{s:Sem Value} (h:∃U' v S' v' w',K v S'=true/\s.run P w= .ok v' w'/\VR U' v v'/\Rel P w0 U' S' w'/\Stp U w U' w'):Out P w0 U w K (do pure (.value (<-s))):=by
 obtain⟨U',v,S',v',w',hk,hr,hv,h1,h2⟩:=h;exact⟨_,U',v,S',v',w',hk,by rw [Sem.run_bind,hr];rfl,.inl rfl,hv,h1,h2⟩
theorem Out.unit{K:VK}{s:Sem Unit} (h:∃S' w',K undef S'=true/\Rel P w0 U S' w'/\Stp U w U w'/\s.run P w= .ok () w'):Out P w0 U w K (do s;pure .skip):=by
 obtain⟨S',w',hk,h1,h2,hr⟩:=h;exact⟨_,U,undef,S',undef,w',hk,by rw [Sem.run_bind,hr];rfl,.inr ⟨rfl,rfl⟩,.tuple rfl (by simp),h1,h2⟩
theorem VR.nat{k:IntKind}{n:Nat}:VR U (.int k (.ofNat n)) (.int k (n:Int)):= .flat rfl
theorem VR.undef:VR U undef undef:= .tuple rfl (by simp)
theorem Ii{ts:Array TypeId}{ty t e:TypeId}{zero:List Value}{n c:Nat}{a:Addr}{w':World} (h0:ts[0]? =some t) (ht:P.underlying t=some (.slice e)) (hz:qC P e=some zero) (hn:n≠0) (hne:zero≠[])
 (hs:(storeCells a (List.replicate n zero).flatten).run P w= .ok () w'):(Builtin.clear_ ts ty #[.slice (some a) n c]).run P w= .ok (.tuple #[]) w':=by
 obtain⟨zv,hz1,hz2⟩:=vE hz w
 have hzz:Builtin.zeroCells zv.cells n=⟨(List.replicate n zero).flatten⟩:=by
  have:=CF zero zv.cells hz2 n hne;have hl:zv.cells.size=zero.length:=by rw [<-hz2];rfl
  unfold Builtin.zeroCells;rw [show n*zv.cells.size=n*zero.length by rw [hl]];exact this
 cases n with
 | zero=>exact absurd rfl hn
 | succ n=>simp [Builtin.clear_,h0,run_underlying ht,hz1,hzz,hs]
theorem Ou{ts:Array TypeId}{ty:TypeId}{j:IntKind}{K:Value->Bool}:∀{l l':List Value} {x:Int},JG false l j x K=true->jP U l l'->∃y,K (.int j y)=true/\∀w,(Builtin.min_ ts ty ⟨.int j x::l'⟩).run P w= .ok (.int j y) w:=by
 intro l;induction l with
 | nil=>intro l' x hk hl;cases hl.iN;exact⟨x,hk,fun w=>by simp [Builtin.min_]⟩
 | cons v l ih=>
  intro l' x hk hl;obtain⟨v',t',rfl,hv,ht⟩:=hl.cC;cases v with
  | int k y=>
   cases hv.of_flat rfl;have hk:dW (WJ y x) (JG false l j y K) (JG false l j x K)=true:=hk;rw [zP]at hk;by_cases hlt:y<x
   ·rw [decide_eq_true hlt]at hk
    obtain⟨z,hz,hr⟩:=ih hk ht;refine⟨z,hz,fun w=>?_⟩;have:=hr w;simp only [Builtin.min_,List.foldlM_cons,Builtin.min2,if_pos hlt,Sem.run_bind,Sem.run_pure,Result.andThen_ok]at this ⊢;exact this
   ·rw [decide_eq_false hlt]at hk
    obtain⟨z,hz,hr⟩:=ih hk ht;refine⟨z,hz,fun w=>?_⟩;have:=hr w;simp only [Builtin.min_,List.foldlM_cons,Builtin.min2,if_neg hlt,Sem.run_bind,Sem.run_pure,Result.andThen_ok]at this ⊢;exact this
  | _=>cases hk
theorem Ov{ts:Array TypeId}{ty:TypeId}{j:IntKind}{K:Value->Bool}:∀{l l':List Value} {x:Int},JG true l j x K=true->jP U l l'->∃y,K (.int j y)=true/\∀w,(Builtin.max_ ts ty ⟨.int j x::l'⟩).run P w= .ok (.int j y) w:=by
 intro l;induction l with
 | nil=>intro l' x hk hl;cases hl.iN;exact⟨x,hk,fun w=>by simp [Builtin.max_]⟩
 | cons v l ih=>
  intro l' x hk hl;obtain⟨v',t',rfl,hv,ht⟩:=hl.cC;cases v with
  | int k y=>
   cases hv.of_flat rfl;have hk:dW (WJ x y) (JG true l j y K) (JG true l j x K)=true:=hk;rw [zP]at hk;by_cases hlt:x<y
   ·rw [decide_eq_true hlt]at hk
    obtain⟨z,hz,hr⟩:=ih hk ht;refine⟨z,hz,fun w=>?_⟩;have:=hr w;simp only [Builtin.max_,List.foldlM_cons,Builtin.max2,if_pos hlt,Sem.run_bind,Sem.run_pure,Result.andThen_ok]at this ⊢;exact this
   ·rw [decide_eq_false hlt]at hk
    obtain⟨z,hz,hr⟩:=ih hk ht;refine⟨z,hz,fun w=>?_⟩;have:=hr w;simp only [Builtin.max_,List.foldlM_cons,Builtin.max2,if_neg hlt,Sem.run_bind,Sem.run_pure,Result.andThen_ok]at this ⊢;exact this
  | _=>cases hk
theorem TD (h:Rel P w0 U S w){b:Builtin}{ts:Array TypeId}{ty:TypeId}{cs:Array Bool}{args args':List Value}{K:VK} (hk:nD P b ts.toList args S K=true) (ha:jP U args args'):
 Out P w0 U w K (builtin b ts ty cs ⟨args'⟩):=by
 unfold nD at hk;split at hk
 ·
   rename_i x;obtain⟨x',t',rfl,hx,ht'⟩:=ha.cC;cases ht'.iN;split at hk
   ·rename_i t rest hts
    have h0:ts[0]? =some t:=by have:=congrArg (·[0]?) hts;simpa using this
    split at hk
    ·rename_i base n c
     split at hk
     ·rename_i e he
      have hu:=eS he;refine Out.here h hk (v':= .int .i64 (n:Int)) .nat ?_;have main:∀b' c',(Builtin.len_ ts ty ⟨[.slice b' n c']⟩).run P w= .ok (.int .i64 (n:Int)) w:=fun b' c'=>by simp [Builtin.len_,h0,run_underlying hu,goInt]
      cases hx with
      | flat _=>exact main _ _
      | slice _=>exact main _ _
      | mP _ _ _ _ _=>exact main _ _
      | tK=>exact main _ _
      | tL _=>exact main _ _
     ·cases hk
    ·rename_i s
     cases hx.of_flat rfl;split at hk
     ·rename_i hu
      rw [iW]at hk;refine Out.here h hk (v':= .int .i64 (s.data.toList.length:Int)) .nat ?_;simp [Builtin.len_,h0,run_underlying hu,goInt]
     ·cases hk
    ·rename_i r
     split at hk
     ·rename_i q hm
      have hu:=sW hm;rcases zC hk with ⟨e1,hk2⟩ | ⟨r,es,c,e1,ho,hk2⟩
      ·rw [e1]at hx
       cases hx.of_flat rfl;exact Out.here h hk2 (v':= .int .i64 0) (.flat rfl) (by simp [Builtin.len_,h0,run_underlying hu,goInt])
      ·rw [e1]at hx
       obtain⟨L,hL,rfl⟩:=hx.yI;obtain⟨es',_,hb,hes⟩:=h.map ho hL;simp only [iW]at hk2;refine Out.here h hk2 (v':= .int .i64 (es.length:Int)) .nat ?_;have hl:es'.size=es.length:=by rw [hes.1];rfl
       simp [Builtin.len_,h0,run_underlying hu,MapKept.run_getObj_map hb,goInt,hl]
     ·cases hk
    ·split at hk
     ·rename_i n e hu
      exact Out.here h hk (v':= .int .i64 (n:Int)) .nat (by simp [Builtin.len_,h0,run_underlying hu,goInt])
     ·cases hk
    ·cases hk
   ·cases hk
 ·obtain⟨s',t1,rfl,hs,ht1⟩:=ha.cC
  obtain⟨x',t2,rfl,hx,ht2⟩:=ht1.cC;cases ht2.iN;exact Out.new (WQ h hk hs hx)
 ·obtain⟨s',t1,rfl,hs,ht1⟩:=ha.cC
  obtain⟨x',t2,rfl,hx,ht2⟩:=ht1.cC;cases ht2.iN;obtain⟨v,S',v',w',h1,h2,h3,h4,h5⟩:=Eb h hk hs hx;exact Out.new ⟨U,v,S',v',w',h1,h2,h3,h4,h5⟩
 ·obtain⟨s',t1,rfl,hs,ht1⟩:=ha.cC
  obtain⟨x',t2,rfl,hx,ht2⟩:=ht1.cC;cases ht2.iN;obtain⟨S',w',h1,h2,h3,h4⟩:=WM (t:=ty) h hk hs hx;exact Out.new ⟨U,_,S',_,w',h1,h4,.undef,h2,h3⟩
 ·rename_i j x l
  obtain⟨s',t1,rfl,hs,ht1⟩:=ha.cC;cases hs.of_flat rfl;obtain⟨y,hk,hrun⟩:=Ou hk ht1;exact Out.here h hk (.flat rfl) (hrun w)
 ·rename_i j x l
  obtain⟨s',t1,rfl,hs,ht1⟩:=ha.cC;cases hs.of_flat rfl;obtain⟨y,hk,hrun⟩:=Ov hk ht1;exact Out.here h hk (.flat rfl) (hrun w)
 ·
   rename_i x;obtain⟨x',t',rfl,hx,ht'⟩:=ha.cC;cases ht'.iN;split at hk
   ·rename_i t rest hts
    have h0:ts[0]? =some t:=by have:=congrArg (·[0]?) hts;simpa using this
    split at hk
    ·rename_i c he
     have hu:=eS he;cases hx.of_flat rfl;exact Out.here h hk (v':= .int .i64 (c:Int)) .nat (by simp [Builtin.cap_,h0,run_underlying hu,goInt])
    ·rename_i c he
     have hu:=eS he;rcases hx.jT with ⟨L,c1,hL,rfl,⟨_,rfl⟩ | ⟨hs,_⟩⟩ | ⟨⟨_,hs⟩,_⟩
     ·exact Out.here h hk (v':= .int .i64 (c1:Int)) .nat (by simp [Builtin.cap_,h0,run_underlying hu,goInt])
     ·cases hs
     ·cases hs
    ·cases hk
   ·cases hk
 ·
   rename_i base n c;obtain⟨s',t1,rfl,hs,ht1⟩:=ha.cC;cases ht1.iN;split at hk
   ·rename_i t rest hts
    have h0:ts[0]? =some t:=by have:=congrArg (·[0]?) hts;simpa using this
    split at hk
    ·rename_i elem he
     have hu:=eS he;split at hk
     ·rename_i size zero hsz hz
      split at hk
      ·cases hs.of_flat rfl
       exact Out.here h hk .undef (v':= .tuple #[]) (by simp [Builtin.clear_,h0,run_underlying hu])
      ·refine Out.here h hk .undef (v':= .tuple #[]) ?_
       have main:∀b' c',(Builtin.clear_ ts ty ⟨[.slice b' 0 c']⟩).run P w= .ok (.tuple #[]) w:=fun b' c'=>by cases b'<;>simp [Builtin.clear_,h0,run_underlying hu]
       cases hs with
       | flat _=>exact main _ _
       | slice _=>exact main _ _
       | mP _ _ _ _ _=>exact main _ _
       | tK=>exact main _ _
       | tL _=>exact main _ _
      ·rename_i i o sp n
       split at hk
       ·rename_i q hsp QB hzl
        rw [vS]at hk;rw [mQ]at QB;have aFI:∀v∈zero,bH v=true:=List.all_eq_true.1 QB;have hzl:=Nat.eq_of_beq_eq_true hzl;have XS:jP U (List.replicate (n+1) zero).flatten (List.replicate (n+1) zero).flatten:=(jP.flat aFI).flatten _;rcases hs.jT with ⟨L,c',hL,rfl,_⟩ | ⟨⟨_,hsp1⟩,_⟩
        ·obtain⟨S',w',hk,r1,r2,hrun⟩:=tN h hk hL XS (fun v hv=>by
          simp only [List.mem_flatten,List.mem_replicate]at hv;obtain⟨l,⟨_,rfl⟩,hv⟩:=hv;have:=aFI v hv;cases v<;>first | rfl | (simp [bH]at this))
         exact Out.new ⟨U,_,S',_,w',hk,Ii h0 hu hz (by omega) (by intro e;rw [e]at hzl;simp at hzl) hrun,.undef,r1,r2⟩
        ·rw [hsp1]at hsp;cases hsp
       ·cases hk
     ·cases hk
    ·cases hk
   ·cases hk
 ·cases hk
end ops
end Go.Am
