/- AM, an abstract machine for the model's code: its state, its operations, its evaluator: plain definitions, no theorem about any program. -/
import Derived.OrdersIn
import Derived.RangeFuncIn
import Derived.RangeFuncLeaves
import Derived.Below
import GoSem.Dispatch
import Derived.RangeFuncRecord
import Derived.Laws.StructEq
import Derived.Laws.MakeOwn
import Derived.MapKept
import Derived.Laws.IdiomStrings
import Derived.Laws.BytesArg
import Derived.Maps.RangeRun
import Derived.Laws.AppendOwn

noncomputable section
namespace Go.Am
abbrev aT:= @List.getElem?_eq_getElem
abbrev bH:= @Nat.exists_eq_succ_of_ne_zero
abbrev cJ:= @Nat.le_of_ble_eq_true
abbrev bO:= @decide_eq_false
abbrev bI:= @decide_eq_true
abbrev dH:= @Nat.eq_of_beq_eq_true
abbrev aG:= @if_neg
abbrev cO:= @List.getElem_mem
abbrev gO:= @List.getElem?_append_left
abbrev bQ:= @Nat.le_refl
abbrev aP:= @Ne.symm
abbrev kH:= @List.getElem?_append_right
abbrev eH:= @List.getElem?_map
abbrev eI:= @Result.andThen_ok
abbrev dZ:= @Bool.and_eq_true
abbrev aO:= @if_pos
abbrev mB:= @List.drop_eq_getElem_cons
abbrev cP:= @Sem.run_bind
abbrev sB:= @List.eq_nil_of_length_eq_zero
abbrev mC:= @List.take_of_length_le
abbrev bC:= @absurd
abbrev kI:= @List.length_append
abbrev nO:= @Nat.ble_eq_true_of_le
abbrev eJ:= @Nat.zero_add
abbrev oW:= @List.drop_of_length_le
abbrev fL:= @Bool.not_true
abbrev mU:= @List.length_take
abbrev mE:= @List.length_map
abbrev BG:= @List.getD_eq_getElem?_getD
abbrev qY:= @List.getElem?_drop
abbrev sC:= @List.getElem?_take
abbrev oX:= @List.length_cons
abbrev uO:= @List.length_zipWith
abbrev sD:= @Nat.lt_succ_of_lt
abbrev kJ:= @Sem.run_pure
abbrev jD:= @Nat.mod_lt
abbrev kX:= @Nat.mul_one
abbrev xM:= @List.ext_getElem?
abbrev CY:= @List.mem_of_getElem?
abbrev FC:= @List.getElem?_eq_none
abbrev xN:= @Nat.lt_succ_self
abbrev BH:= @List.append_assoc
abbrev CZ:= @Nat.lt_of_lt_of_le
abbrev HX:= @List.getElem?_set_ne
abbrev uP:= @Nat.add_assoc
abbrev JZ:= @List.length_replicate
abbrev xO:= @List.drop_zero
abbrev HY:= @List.replicate_succ
abbrev jY:= @congrArg
abbrev DA:= @Option.map_some
abbrev NO:= @Nat.add_eq_zero_iff
abbrev FD:= @List.append_nil
abbrev ZU:= @Array.toList_setIfInBounds
abbrev HZ:= @List.all_eq_true
abbrev IA:= @List.length_drop
abbrev DB:= @Bool.not_false
abbrev KA:= @List.take_add_one
abbrev KB:= @Bool.not_eq_true'
abbrev QD:= @Nat.mul_le_mul_right
abbrev UB:= @List.getElem?_set_self
abbrev UC:= @Nat.ne_of_beq_eq_false
abbrev zR:= @Nat.le_trans
abbrev NP:= @Nat.eq_zero_or_pos
abbrev NQ:= @List.flatten_cons
abbrev BI:= @Nat.lt_or_ge
abbrev ZV:= @List.getElem?_cons_succ
abbrev zT:= @Nat.zero_le
abbrev UD:= @Int.ofNat_eq_natCast
abbrev Fu:= @Array.getElem?_eq_getElem
abbrev NS:= @Nat.one_ne_zero
abbrev ZW:= @List.getElem?_of_mem
abbrev ZX:= @List.getElem?_range
abbrev ZY:= @List.getElem_of_mem
abbrev QE:= @List.map_append
abbrev UE:= @Nat.mod_eq_of_lt
abbrev Fv:= @List.mem_of_mem_take
abbrev Fw:= @List.mem_of_mem_drop
abbrev UF:= @Bool.or_eq_true
abbrev Vd:= @Array.getD_eq_getD_getElem?
abbrev KC:= @Nat.add_mul
abbrev Fx:= @Bool.false_eq_true
abbrev Lu:= @Array.getElem?_toList
abbrev ZZ:= @List.length_set
abbrev Aa:= @List.mem_filter
abbrev Ab:= @List.nil_append
abbrev Lv:= @List.getElem_zipWith
abbrev UG:= @List.all_cons
abbrev aCa:= @Array.getElem?_setIfInBounds_ne
abbrev Ac:= @List.drop_drop
abbrev Fy:= @Option.bind_some
abbrev Ve:= @List.getElem?_cons_zero
abbrev aCb:= @Array.eq_empty_of_size_eq_zero
abbrev QF:= @Nat.le_succ
abbrev UH:= @Nat.add_zero
abbrev Vf:= @List.drop_eq_nil_of_le
abbrev aCc:= @Array.getElem?_setIfInBounds
abbrev Ad:= @Bool.false_or
abbrev Ae:= @List.map_cons
abbrev Vg:= @Nat.lt_of_sub_eq_succ
abbrev Lw:= @List.getElem?_set
abbrev Lx:= @List.flatMap_cons
abbrev Ga:= @List.mapM_cons
abbrev Af:= @Nat.zero_mul
abbrev Ag:= @Nat.beq_refl
abbrev Ai:= @Nat.succ_mul
abbrev Aj:= @Nat.mul_succ
abbrev Ak:= @Nat.le_of_eq
abbrev Vh:= @List.take_succ_cons
abbrev Vi:= @Array.getElem?_push
abbrev Gc:= @Bool.true_and
abbrev Ly:= @List.foldl_cons
abbrev Lz:= @Bool.eq_iff_iff
abbrev zI:Value:= .int .i64 (.ofNat 0)
abbrev zS:Value:= .string ⟨⟨[]⟩⟩
abbrev zL:Value:= .slice none 0 0
abbrev zF:Value:= .bool false
inductive Tr (α:Type)where
 | leaf
 | node (v:Option α) (l r:Tr α)
namespace Tr
variable{α:Type}
def get:Tr α->Nat->Option α
 | leaf,_=>none
 | node v l r,n=>if n=0 then v else if n%2=1 then l.get (n / 2)else r.get (n / 2-1)
def JI (x:α):Nat->Tr α->Nat->Tr α
 | 0,t,_=>t
 | f+1,leaf,n=>if n=0 then node (some x) leaf leaf else if n%2=1 then node none (JI x f leaf (n / 2)) leaf else node none leaf (JI x f leaf (n / 2-1))
 | f+1,node v l r,n=>if n=0 then node (some x) l r else if n%2=1 then node v (JI x f l (n / 2)) r else node v l (JI x f r (n / 2-1))
def put (t:Tr α) (n:Nat) (x:α):Tr α:=JI x (n+1) t n
end Tr
section comb
variable{α:Type}{β:Type}
def pL (n:Nat) (z:β) (s:Nat->β):β:=Nat.rec (motive:=fun _=>β) z (fun p _=>s p) n
def gE (b:Bool) (t f:β):β:=Bool.rec (motive:=fun _=>β) f t b
def aQn (o:Option α) (z:β) (s:α->β):β:=Option.rec (motive:=fun _=>β) z s o
def aNd (n:Int) (z:Nat->β) (s:Nat->β):β:=Int.rec (motive:=fun _=>β) z s n
def Ma (l:List α) (z:β) (s:α->List α->β):β:=List.rec (motive:=fun _=>β) z (fun a t _=>s a t) l
def MF (z:β) (s:Nat->β->β) (n:Nat):β:=Nat.rec (motive:=fun _=>β) z s n
def gX (z:β) (s:α->List α->β->β) (l:List α):β:=List.rec (motive:=fun _=>β) z s l
def aQo (z:β) (s:Option α->Tr α->Tr α->β->β->β) (t:Tr α):β:=Tr.rec (motive:=fun _=>β) z s t
def aDS (t:Tr α) (z:β) (s:Option α->Tr α->Tr α->β):β:=Tr.rec (motive:=fun _=>β) z (fun v l r _ _=>s v l r) t
def aQp (skip:β) (region:Array Oper->Bool->β) (seq:β->β->β) (cond:Operand->β->β->β) (block:Nat->β->β) (loop scope:β->β)
 (range:Operand->Array Tmp->Code->Code->β) (exit:Nat->β) (label ret bad:β) (c:Code):β:=
 Code.rec (motive:=fun _=>β) skip (fun _ ops draw=>region ops draw) (fun _ _ a b=>seq a b) (fun c _ _ a b=>cond c a b) (fun id _ h=>block id h) (fun _ h=>loop h)
  (fun f ps a b _ _=>range f ps a b) exit (fun _ h=>scope h) (fun _=>label) (fun _=>bad) ret (fun _=>bad) c
end comb
def rL{α:Type} (t:Tr α) (n:Nat) (k:α->Bool):Bool:=
 aQo (β:=Nat->Bool) (fun _=>false) (fun v _ _ gl gr n=>pL n (aQn v false k) fun p=>pL (Nat.mod p 2) (gl (Nat.div p 2)) fun _=>gr (Nat.div p 2)) t n
def YA{α:Type} (x:α) (f:Nat):Tr α->Nat->(Tr α->Bool)->Bool:=
 MF (β:=Tr α->Nat->(Tr α->Bool)->Bool) (fun t _ k=>k t)
  (fun _ ih t n k=>aDS t
   (pL n (k (.node (some x) .leaf .leaf)) fun p=>pL (Nat.mod p 2) (ih .leaf (Nat.div p 2) fun c=>k (.node none c .leaf)) fun _=>ih .leaf (Nat.div p 2) fun c=>k (.node none .leaf c))
   (fun v l r=>pL n (k (.node (some x) l r)) fun p=>pL (Nat.mod p 2) (ih l (Nat.div p 2) fun c=>k (.node v c r)) fun _=>ih r (Nat.div p 2) fun c=>k (.node v l c))) f
def bX (n:Nat) (k:Nat->Bool):Bool:=pL n (k 0) fun p=>k (Nat.succ p)
def DC (n:Int) (k:Int->Bool):Bool:=aNd n (fun m=>bX m fun m=>k (.ofNat m)) (fun m=>bX m fun m=>k (.negSucc m))
def Al (b:Bool) (k:Bool->Bool):Bool:=gE b (k true) (k false)
def YB{α:Type} (l:List α) (i:Nat) (k:α->Bool):Bool:=
 gX (β:=Nat->Bool) (fun _=>false) (fun a _ ih i=>pL i (k a) fun p=>ih p) l i
def aDT{α:Type} (v:α) (l:List α) (i:Nat) (k:List α->Bool):Bool:=
 gX (β:=Nat->(List α->Bool)->Bool) (fun _ k=>k []) (fun a t ih i k=>pL i (k (v::t)) fun p=>ih p fun t'=>k (a::t')) l i k
def aKT{α:Type} (l:List α) (k:List α->Bool):Bool:=
 gX (β:=(List α->Bool)->Bool) (fun k=>k []) (fun a _ ih k=>ih fun t=>k (a::t)) l k
def FE{α:Type} (l m:List α) (k:List α->Bool):Bool:=
 gX (β:=(List α->Bool)->Bool) (fun k=>k m) (fun a _ ih k=>ih fun t=>k (a::t)) l k
def UI{α:Type} (n:Nat) (l:List α) (k:List α->Bool):Bool:=
 MF (β:=List α->(List α->Bool)->Bool) (fun _ k=>k []) (fun _ ih l k=>Ma l false fun a t=>ih t fun t'=>k (a::t')) n l k
def MI{α:Type} (n:Nat) (l:List α) (k:List α->Bool):Bool:=
 MF (β:=List α->Bool) (fun l=>k l) (fun _ ih l=>Ma l false fun _ t=>ih t) n l
def aAa{α:Type} (new:List α) (l:List α) (k:List α->Bool):Bool:=
 gX (β:=List α->(List α->Bool)->Bool) (fun l k=>k l) (fun a _ ih l k=>Ma l false fun _ t=>ih t fun t'=>k (a::t')) new l k
def sW{α:Type} (off:Nat) (new l:List α) (k:List α->Bool):Bool:=
 MF (β:=List α->(List α->Bool)->Bool) (fun l k=>aAa new l k) (fun _ ih l k=>Ma l false fun a t=>ih t fun t'=>k (a::t')) off l k
def KD{α:Type} (l:List α) (k:Nat->Bool):Bool:=
 gX (β:=Nat->Bool) (fun n=>k n) (fun _ _ ih n=>bX (Nat.succ n) ih) l 0
def aAb{α:Type} (z:List α) (n:Nat) (k:List α->Bool):Bool:=
 MF (β:=List α->Bool) (fun acc=>k acc) (fun _ ih acc=>FE z acc ih) n []
inductive CK where
 | exact
 | grown (olds:List Nat)
 | uD
 | ro
 | rs
structure Tm where
 t:Tr Value
 n:Nat
def XD (T:Tm) (i:Nat) (k:Value->Bool):Bool:=rL T.t i k
def uE (v:Value) (T:Tm) (i:Nat) (k:Tm->Bool):Bool:=
 match Nat.blt i T.n with
 | true=>YA v (Nat.succ i) T.t i fun t=>k ⟨t,T.n⟩
 | false=>false
def aDU (n:Nat) (args:List Value) (k:Tm->Bool):Bool:=
 gX (β:=Nat->Tm->Bool) (fun _ T=>k T) (fun a _ ih i T=>uE a T i fun T=>bX (Nat.succ i) fun i=>ih i T) args 0 ⟨.leaf,n⟩
inductive jB where
 | dead
 | cells (vs:List Value) (elem:TypeId) (k:CK)
 | map (es:List MapEntry) (clock:Nat)
 | loop (tmps:Tm) (params:List Tmp) (assign body:Code) (state:LoopState) (pending:Option Code)
 | defers
 | iter (m:Option Nat) (since:Nat) (seen:List Nat) (last:Nat)
structure St where
 h:Tr jB
 n:Nat
inductive zG where
 | normal
 | exit (id:Nat)
 | ret
structure bD where
 tmps:Tm
 marks:List Nat
 g:Nat
abbrev VK:=Value->St->Bool
abbrev aDV:=FuncId->List Value->St->VK->Bool
def bY:Value->Bool
 | .bool _ | .int .. | .string _ | .nilFunc | .nilIface | .pointer none | .slice none _ _ | .map none=>true
 | _=>false
def Cc (tZ bytes:Nat):Bool:=match Nat.ble (tZ*bytes) 140737488355328 with | true=>Nat.ble tZ 140737488355328 | false=>false
theorem Mb{tZ bytes:Nat} (h:tZ*bytes<=140737488355328/\tZ<=140737488355328):Cc tZ bytes=true:=by
 unfold Cc;rw [nO h.1];exact nO h.2
theorem aG1{tZ bytes:Nat} (h:Cc tZ bytes=true):tZ*bytes<=140737488355328/\tZ<=140737488355328:=by
 unfold Cc at h;cases hb:Nat.ble (tZ*bytes) 140737488355328 with
 | false=>rw [hb]at h;cases h
 | true=>rw [hb]at h;exact⟨cJ hb,cJ h⟩
def kU:Value->Bool
 | .agg _ | .tuple _=>false
 | _=>true
def xP{α:Type} (f:α->Bool) (l:List α):Bool:=gX (β:=Bool) true (fun a _ ih=>gE (f a) ih false) l
def kO:Value->Bool
 | .agg cs=>cs.toList.all bY
 | v=>bY v
def vP (A:bD) (x:Operand) (k:Value->Bool):Bool:=
 match x with
 | .tmp t=>XD A.tmps t k
 | .const v=>match kO v with | true=>k v | false=>false
 | .global g=>match Nat.blt g A.g with | true=>k (.pointer (some ⟨g,0,none⟩)) | false=>false
 | .func f=>k (.func (.func f) #[] #[])
def UJ (A:bD) (xs:List Operand) (k:List Value->Bool):Bool:=
 gX (β:=(List Value->Bool)->Bool) (fun k=>k []) (fun x _ ih k=>vP A x fun v=>ih fun vs=>k (v::vs)) xs k
def mP (A:bD) (d:Option Tmp) (v:Value) (k:bD->Bool):Bool:=
 match d with
 | some d=>uE v A.tmps d fun ts=>k ⟨ts,A.marks,A.g⟩
 | none=>k A
def zU (S:St) (o:jB) (k:Nat->St->Bool):Bool:=
 YA o (Nat.succ S.n) S.h S.n fun h=>bX (Nat.succ S.n) fun n=>k S.n ⟨h,n⟩
def sV (S:St) (i:Nat) (o:jB) (k:St->Bool):Bool:=YA o (Nat.succ i) S.h i fun h=>k ⟨h,S.n⟩
def DD (S:St) (i:Nat) (k:List Value->TypeId->CK->Bool):Bool:=
 rL S.h i fun o=>match o with | .cells vs e c=>k vs e c | _=>false
def OH (S:St) (i off n:Nat) (k:List Value->Bool):Bool:=DD S i fun vs _ _=>MI off vs fun l=>UI n l k
def Sz (l:List Nat) (h:Tr jB) (k:Tr jB->Bool):Bool:=
 gX (β:=Tr jB->(Tr jB->Bool)->Bool) (fun h k=>k h) (fun i _ ih h k=>YA .dead (Nat.succ i) h i fun h=>ih h k) l h k
def eqI:Int->Int->Bool
 | .ofNat a,.ofNat b=>Nat.beq a b
 | .negSucc a,.negSucc b=>Nat.beq a b
 | _,_=>false
def FF:IntKind->IntKind->Bool
 | .i8,.i8 | .i16,.i16 | .i32,.i32 | .i64,.i64 | .u8,.u8 | .u16,.u16 | .u32,.u32 | .u64,.u64=>true
 | _,_=>false
def Gd (new:List Value):List Value->Bool:=
 gX (β:=List Value->Bool) (fun _=>true) (fun a _ ih l=>Ma l false fun b t=>match a,b with
  | .int j x,.int k y=>match FF j k with
   | true=>match eqI x y with | true=>ih t | false=>false
   | false=>false
  | _,_=>false) new
def uQ (S:St) (i off:Nat) (new:List Value) (k:St->Bool):Bool:=
 DD S i fun vs e c=>
  match c with
  | .exact=>sW off new vs fun vs=>sV S i (.cells vs e .exact) k
  | .grown olds=>MI off vs fun l=>match Gd new l with
   | true=>k S
   | false=>sW off new vs fun vs=>Sz olds S.h fun h=>YA (.cells vs e (.grown [])) (Nat.succ i) h i fun h=>k ⟨h,S.n⟩
  | .rs=>MI off vs fun l=>match Gd new l with | true=>k S | false=>false
  | _=>false
def Zv:Int->Int->Bool
 | .ofNat a,.ofNat b=>Nat.blt a b
 | .ofNat _,.negSucc _=>false
 | .negSucc _,.ofNat _=>true
 | .negSucc a,.negSucc b=>Nat.blt b a
def sM (k:IntKind) (n:Int):Int:=
 match k,n with
 | .i64,.ofNat m=>match Nat.blt m 9223372036854775808 with | true=> .ofNat m | false=>k.wrap n
 | .i64,.negSucc m=>match Nat.blt m 9223372036854775808 with | true=> .negSucc m | false=>k.wrap n
 | .u64,.ofNat m=>match Nat.blt m 18446744073709551616 with | true=> .ofNat m | false=>k.wrap n
 | .u8,.ofNat m=>match Nat.blt m 256 with | true=> .ofNat m | false=>k.wrap n
 | k,n=>k.wrap n
def NT (k:IntKind) (n:Int) (K:Value->Bool):Bool:=DC (sM k n) fun n=>K (.int k n)
def oN (b:Bool) (K:Value->Bool):Bool:=Al b fun b=>K (.bool b)
def QG (op:BinOp) (k:IntKind) (x y:Int) (K:Value->Bool):Bool:=
 match op with
 | .add=>NT k (Int.add x y) K
 | .sub=>NT k (Int.sub x y) K
 | .mul=>NT k (Int.mul x y) K
 | .quo=>match eqI y 0 with | true=>false | false=>NT k (Int.tdiv x y) K
 | .rem=>match eqI y 0 with | true=>false | false=>DC (Int.tmod x y) fun n=>K (.int k n)
 | .and=>DC (k.wrap (BitVec.ofInt k.bits x &&& BitVec.ofInt k.bits y).toNat) fun n=>K (.int k n)
 | .or=>DC (k.wrap (BitVec.ofInt k.bits x ||| BitVec.ofInt k.bits y).toNat) fun n=>K (.int k n)
 | .xor=>DC (k.wrap (BitVec.ofInt k.bits x ^^^ BitVec.ofInt k.bits y).toNat) fun n=>K (.int k n)
 | .andNot=>DC (k.wrap (BitVec.ofInt k.bits x &&& ~~~ BitVec.ofInt k.bits y).toNat) fun n=>K (.int k n)
 | .eql=>oN (eqI x y) K
 | .neq=>oN (!eqI x y) K
 | .lss=>oN (Zv x y) K
 | .leq=>oN (!Zv y x) K
 | .gtr=>oN (Zv y x) K
 | .geq=>oN (!Zv x y) K
 | _=>false
def An (op:BinOp) (k:IntKind) (x y:Int) (K:Value->Bool):Bool:=
 match Zv y 0 with
 | true=>false
 | false=>
  match op with
  | .shl=>NT k (x*2 ^ (min y.toNat k.bits)) K
  | .shr=>DC (x.fdiv (2 ^ (min y.toNat k.bits))) fun n=>K (.int k n)
  | _=>false
def Mc (a b:List UInt8):Bool:=
 gX (β:=List UInt8->Bool) (fun b=>match b with | []=>true | _=>false)
  (fun x _ ih b=>match b with | []=>false | y::b=>match Nat.beq x.toNat y.toNat with | true=>ih b | false=>false) a b
def aFo (a b:List UInt8):Bool:=
 gX (β:=List UInt8->Bool) (fun b=>match b with | []=>false | _=>true)
  (fun x _ ih b=>match b with | []=>false | y::b=>match Nat.blt x.toNat y.toNat with | true=>true | false=>match Nat.beq x.toNat y.toNat with | true=>ih b | false=>false) a b
def Vj (op:BinOp) (a b:ByteArray) (K:Value->Bool):Bool:=
 match op with
 | .add=>KD a.data.toList fun n=>KD b.data.toList fun m=>match Nat.blt (n+m) 9223372036854775808 with
  | true=>FE a.data.toList b.data.toList fun l=>K (.string ⟨⟨l⟩⟩)
  | false=>false
 | .eql=>oN (Mc a.data.toList b.data.toList) K
 | .neq=>oN (!Mc a.data.toList b.data.toList) K
 | .lss=>oN (aFo a.data.toList b.data.toList) K
 | .leq=>oN (aFo a.data.toList b.data.toList || Mc a.data.toList b.data.toList) K
 | .gtr=>oN (!(aFo a.data.toList b.data.toList || Mc a.data.toList b.data.toList)) K
 | .geq=>oN (!aFo a.data.toList b.data.toList) K
 | _=>false
section ops
variable (P:Program)
def xQ (t:TypeId):Option Bool:=(P.underlying t).map fun | .struct _ | .array _ _=>true | _=>false
def cM (t:TypeId):Option Nat:=(P.info? t).map (·.size)
def wY (t:TypeId):Option (List Value):=((P.info? t).bind (·.zero)).map (·.cells.toList)
def OI (t:TypeId) (a:Value) (S:St) (K:VK):Bool:=
 match a with
 | .pointer (some ⟨i,o,none⟩)=>
  match xQ P t with
  | some false=>DD S i fun vs _ _=>YB vs o fun v=>K v S
  | some true=>match cM P t with
   | some n=>OH S i o n fun l=>K (.agg ⟨l⟩) S
   | none=>false
  | none=>false
 | _=>false
def pM (v:Value) (k:List Value->Bool):Bool:=
 match v with
 | .agg cs=>match xP kU cs.toList with | true=>k cs.toList | false=>false
 | .tuple _=>false
 | v=>k [v]
def Ao (t:TypeId) (a x:Value) (S:St) (k:St->Bool):Bool:=
 match a with
 | .pointer (some ⟨i,o,none⟩)=>
  match cM P t with
  | some n=>pM x fun cs=>KD cs fun m=>match Nat.beq m n with
   | true=>uQ S i o cs k
   | false=>false
  | none=>false
 | _=>false
def aFp (d:Nat) (x:Option Value) (k:Nat->Bool):Bool:=
 match x with
 | none=>k d
 | some (.int _ (.ofNat n))=>k n
 | _=>false
def QH (len cap:Nat) (lo hi mx:Option Value) (k:Nat->Nat->Nat->Bool):Bool:=
 aFp cap mx fun m=>aFp len hi fun h=>aFp 0 lo fun l=>
  match Nat.ble l h,Nat.ble h m,Nat.ble m cap with
  | true,true,true=>k l h m
  | _,_,_=>false
def isSlice (t:TypeId):Option TypeId:=match P.underlying t with | some (.slice e)=>some e | _=>none
def uR (t:TypeId) (x:Value) (lo hi mx:Option Value) (S:St) (K:Value->Bool):Bool:=
 match x with
 | .string s=>
  match P.underlying t,mx with
  | some .string,none=>KD s.data.toList fun n=>QH n n lo hi none fun l h _=>UI h s.data.toList fun a=>MI l a fun b=>K (.string ⟨⟨b⟩⟩)
  | _,_=>false
 | .slice none len cap=>
  match isSlice P t with
  | some elem=>match cM P elem with
   | some _=>QH len cap lo hi mx fun l h m=>bX (h-l) fun n=>bX (m-l) fun c=>K (.slice none n c)
   | none=>false
  | none=>false
 | .slice (some ⟨i,o,sp⟩) len cap=>
  match isSlice P t with
  | some elem=>match cM P elem with
   | some size=>QH len cap lo hi mx fun l h m=>bX (h-l) fun n=>bX (m-l) fun c=>bX (o+l*size) fun o'=>
    match sp,mx with
    | none,_=>match Nat.beq m l with | true=>K (.slice (some ⟨i,o,none⟩) n c) | false=>K (.slice (some ⟨i,o',none⟩) n c)
    | some 0,some _=>match Nat.beq m l with | true=>K (.slice (some ⟨i,o,none⟩) n c) | false=>K (.slice (some ⟨i,o',none⟩) n c)
    | some 0,none=>match Nat.beq m l with
     | true=>K (.slice (some ⟨i,0,some 1⟩) 0 0)
     | false=>DD S i fun _ e ck=>match ck,cM P e with
      | .exact,_=>false
      | _,some q=>match Nat.beq q size with | true=>K (.slice (some ⟨i,o',some 0⟩) n c) | false=>false
      | _,none=>false
    | some _,_=>K (.slice (some ⟨i,0,some 1⟩) 0 0)
   | none=>false
  | none=>false
 | .pointer (some ⟨i,o,none⟩)=>
  match P.underlying t with
  | some (.array len elem)=>match cM P elem with
   | some size=>QH len len lo hi mx fun l h m=>bX (h-l) fun n=>bX (m-l) fun c=>bX (o+l*size) fun o'=>
    match Nat.beq m l with | true=>K (.slice (some ⟨i,o,none⟩) n c) | false=>K (.slice (some ⟨i,o',none⟩) n c)
   | none=>false
  | _=>false
 | _=>false
def FG (t:TypeId) (x ix:Value) (K:Value->Bool):Bool:=
 match ix with
 | .int _ (.ofNat i)=>
  match x with
  | .slice (some ⟨b,o,sp⟩) len _=>
   match sp with
   | some (_+1)=>false
   | _=>match isSlice P t with
    | some elem=>match cM P elem,Nat.blt i len with
     | some size,true=>bX (o+i*size) fun o=>K (.pointer (some ⟨b,o,none⟩))
     | _,_=>false
    | none=>false
  | .pointer (some ⟨b,o,none⟩)=>
   match P.underlying t with
   | some (.array len elem)=>match cM P elem,Nat.blt i len with
    | some size,true=>bX (o+i*size) fun o=>K (.pointer (some ⟨b,o,none⟩))
    | _,_=>false
   | _=>false
  | _=>false
 | _=>false
def DF (s:TypeId) (f:Nat):Option Field:=match P.underlying s with | some (.struct fs)=>fs[f]? | _=>none
def FH (s:TypeId) (x:Value) (f:Nat) (K:Value->Bool):Bool:=
 match x with
 | .pointer (some ⟨b,o,none⟩)=>
  match DF P s f with
  | some fd=>match cM P fd.type with
   | some (_+1)=>bX (o+fd.offset) fun o=>K (.pointer (some ⟨b,o,none⟩))
   | _=>false
  | none=>false
 | _=>false
def Ta (t:TypeId) (cs:List Value) (off:Nat) (K:Value->Bool):Bool:=
 match xQ P t with
 | some false=>YB cs off K
 | some true=>match cM P t with
  | some n=>MI off cs fun l=>UI n l fun l=>K (.agg ⟨l⟩)
  | none=>false
 | none=>false
def UK (t:TypeId) (x:Value) (f:Nat) (K:Value->Bool):Bool:=
 match x with
 | .agg cs=>match DF P t f with
  | some fd=>Ta P fd.type cs.toList fd.offset K
  | none=>false
 | _=>false
def Ge (t:TypeId) (x ix:Value) (K:Value->Bool):Bool:=
 match ix with
 | .int _ (.ofNat i)=>
  match x with
  | .agg cs=>match P.underlying t with
   | some (.array len elem)=>match cM P elem,Nat.blt i len with
    | some size,true=>Ta P elem cs.toList (i*size) K
    | _,_=>false
   | _=>false
  | .string s=>match P.underlying t with
   | some .string=>YB s.data.toList i fun b=>bX b.toNat fun n=>K (.int .u8 (.ofNat n))
   | _=>false
  | _=>false
 | _=>false
def YP (place:Nat->Option (Nat×Nat)) (parts:List (Nat×Value)) (cells:List Value) (k:List Value->Bool):Bool:=
 gX (β:=List Value->Bool) (fun cs=>k cs)
  (fun p _ ih cs=>match place p.1 with
   | some (off,size)=>pM p.2 fun new=>KD new fun m=>match Nat.beq m size with
    | true=>sW off new cs ih
    | false=>false
   | none=>false) parts cells
def IB (A:bD) (parts:List (Nat×Operand)) (k:List (Nat×Value)->Bool):Bool:=
 gX (β:=(List (Nat×Value)->Bool)->Bool) (fun k=>k []) (fun p _ ih k=>vP A p.2 fun v=>ih fun l=>k ((p.1,v)::l)) parts k
def placesOf (fields:List Field):Option (List (Nat×Nat)):=fields.mapM fun f=>(cM P f.type).map fun s=>(f.offset,s)
def Md (A:bD) (t:TypeId) (parts:List (Nat×Operand)) (K:Value->Bool):Bool:=
 match wY P t,P.underlying t with
 | some zero,some (.struct fields)=>match placesOf P fields.toList with
  | some pl=>match xP bY zero with
   | true=>IB A parts fun ps=>YP (pl[·]?) ps zero fun cs=>K (.agg ⟨cs⟩)
   | false=>false
  | none=>false
 | some zero,some (.array _ elem)=>match cM P elem with
  | some size=>match xP bY zero with
   | true=>IB A parts fun ps=>YP (fun i=>some (i*size,size)) ps zero fun cs=>K (.agg ⟨cs⟩)
   | false=>false
  | none=>false
 | _,_=>false
def BY (A:bD) (t:TypeId) (len:Nat) (parts:List (Nat×Operand)) (S:St) (K:VK):Bool:=
 match isSlice P t with
 | some elem=>match cM P elem,wY P elem with
  | some (size+1),some zero=>match Nat.ble (len*(size+1)) 16777216,Nat.beq zero.length (size+1)with
   | true,true=>match xP bY zero with
    | true=>aAb zero len fun cs=>IB A parts fun ps=>YP (fun i=>some (i*(size+1),size+1)) ps cs fun cs=>
     zU S (.cells cs elem .exact) fun i S=>K (.slice (some ⟨i,0,none⟩) len len) S
    | false=>false
   | _,_=>false
  | _,_=>false
 | none=>false
def UL (t:TypeId) (S:St) (K:VK):Bool:=
 match wY P t with
 | some zero=>match xP bY zero with
  | true=>aKT zero fun zero=>zU S (.cells zero t .exact) fun i S=>K (.pointer (some ⟨i,0,none⟩)) S
  | false=>false
 | none=>false
def aAc (t:TypeId) (v:Value) (S:St) (K:VK):Bool:=
 pM v fun cs=>zU S (.cells cs t .exact) fun i S=>K (.pointer (some ⟨i,0,none⟩)) S
def xR (t:TypeId) (len cap:Value) (S:St) (K:VK):Bool:=
 match len,cap with
 | .int _ (.ofNat l),.int _ (.ofNat c)=>
  match isSlice P t with
  | some elem=>match P.info? elem,wY P elem with
   | some info,some zero=>match Nat.ble l c,Nat.ble (info.bytes*c) 1099511627776,Nat.ble c 1099511627776,Nat.beq zero.length info.size,info.size with
    | true,true,true,true,_+1=>match xP bY zero with
     | true=>match Nat.ble c 65536 with
      | true=>aAb zero c fun cs=>zU S (.cells cs elem .exact) fun i S=>K (.slice (some ⟨i,0,none⟩) l c) S
      | false=>zU S .dead fun i S=>K (.slice (some ⟨i,0,none⟩) l c) S
     | false=>false
    | _,_,_,_,_=>false
   | _,_=>false
  | none=>false
 | _,_=>false
def sE (t:TypeId):Bool:=match P.underlying t with | some (.int _) | some .string | some .bool=>true | _=>false
def wZ (t:TypeId) (a b:Value) (k:Bool->Bool):Bool:=
 match P.underlying t with
 | some (.int _)=>match a,b with
  | .int j x,.int l y=>match FF j l with | true=>Al (eqI x y) k | false=>false
  | _,_=>false
 | some .string=>match a,b with
  | .string x,.string y=>Al (Mc x.data.toList y.data.toList) k
  | _,_=>false
 | some .bool=>match a,b with
  | .bool x,.bool y=>Al (x==y) k
  | _,_=>false
 | _=>false
def OJ (fs:List Field) (a b:List Value) (k:Bool->Bool):Bool:=
 gX (β:=List Value->List Value->Bool) (fun _ _=>k true)
  (fun f _ ih a b=>Ma a false fun x a=>Ma b false fun y b=>wZ P f.type x y fun e=>match e with | true=>ih a b | false=>k false) fs a b
def xS:Nat->List Field->Bool
 | _,[]=>true
 | i,f::fs=>f.name != "_" &&f.offset==i&&sE P f.type&&xS (i+1) fs
def QI (t:TypeId):Option (List Field):=
 match P.underlying t with
 | some (.struct fs)=>if xS P 0 fs.toList&& !P.stoodInHeld t&& !P.eqGuardType P.depth t then some fs.toList else none
 | _=>none
def pN (t:TypeId) (a b:Value) (k:Bool->Bool):Bool:=
 match a,b with
 | .agg xs,.agg ys=>match QI P t with
  | some fs=>OJ P fs xs.toList ys.toList k
  | none=>false
 | .pointer (some _),.pointer none | .pointer none,.pointer (some _)=>match P.underlying t with | some (.pointer _)=>k false | _=>false
 | .pointer none,.pointer none=>match P.underlying t with | some (.pointer _)=>k true | _=>false
 | .slice (some _) _ _,.slice none _ _ | .slice none _ _,.slice (some _) _ _=>match P.underlying t with | some (.slice _)=>k false | _=>false
 | .slice none _ _,.slice none _ _=>match P.underlying t with | some (.slice _)=>k true | _=>false
 | .map (some _),.map none | .map none,.map (some _)=>match P.underlying t with | some (.map _ _)=>k false | _=>false
 | .map none,.map none=>match P.underlying t with | some (.map _ _)=>k true | _=>false
 | .func _ _ _,.nilFunc | .nilFunc,.func _ _ _=>match P.underlying t with | some (.func _ _ _)=>k false | _=>false
 | .nilFunc,.nilFunc=>match P.underlying t with | some (.func _ _ _)=>k true | _=>false
 | .iface _ _,.nilIface | .nilIface,.iface _ _=>match P.underlying t with | some (.interface _)=>k false | _=>false
 | .bool x,.bool y=>match P.underlying t with | some .bool=>Al (x==y) k | _=>false
 | _,_=>false
def Ap (op:BinOp) (t:TypeId) (a b:Value) (K:Value->Bool):Bool:=
 match a,b with
 | .int k x,.int k' y=>match op with
  | .shl | .shr=>An op k x y K
  | _=>match FF k k' with | true=>QG op k x y K | false=>false
 | .string x,.string y=>Vj op x y K
 | a,b=>match op with
  | .eql=>pN P t a b fun e=>oN e K
  | .neq=>pN P t a b fun e=>oN (!e) K
  | _=>false
def unK (op:UnOp) (a:Value) (K:Value->Bool):Bool:=
 match op,a with
 | .neg,.int k n=>NT k (Int.sub 0 n) K
 | .xor,.int k n=>DC (k.wrap (BitVec.ofInt k.bits (if k.signed then-1 else k.max) ^^^ BitVec.ofInt k.bits n).toNat) fun n=>K (.int k n)
 | .not,.bool b=>oN (!b) K
 | _,_=>false
def aG2 (l:List UInt8) (k:List Value->Bool):Bool:=
 gX (β:=(List Value->Bool)->Bool) (fun k=>k []) (fun b _ ih k=>bX b.toNat fun n=>ih fun t=>k (.int .u8 (.ofNat n)::t)) l k
def aCd (l:List Value) (k:List UInt8->Bool):Bool:=
 gX (β:=(List UInt8->Bool)->Bool) (fun k=>k []) (fun v _ ih k=>match v with | .int .u8 (.ofNat n)=>ih fun t=>k (UInt8.ofNat n::t) | _=>false) l k
def Hx (src dst:TypeId) (x:Value) (S:St) (K:VK):Bool:=
 match x with
 | .int _ n=>match P.underlying src,P.underlying dst with
  | some _,some (.int k)=>NT k n fun v=>K v S
  | _,_=>false
 | .string s=>match P.underlying src,P.underlying dst with
  | some .string,some .string=>K (.string s) S
  | some .string,some (.slice e)=>match P.underlying e,cM P e with
   | some (.int .u8),some 1=>aG2 s.data.toList fun l=>KD l fun n=>zU S (.cells l e (.grown [])) fun i S=>K (.slice (some ⟨i,0,some 0⟩) n n) S
   | _,_=>false
  | _,_=>false
 | .slice none _ _=>match P.underlying src,P.underlying dst with
  | some (.slice e),some .string=>match P.underlying e with
   | some (.int .u8)=>K (.string ⟨⟨[]⟩⟩) S
   | _=>false
  | _,_=>false
 | .slice (some ⟨i,o,sp⟩) len _=>match P.underlying src,P.underlying dst,sp with
  | _,_,some (_+1)=>false
  | some (.slice e),some .string,_=>match P.underlying e with
   | some (.int .u8)=>OH S i o len fun l=>aCd l fun l=>K (.string ⟨⟨l⟩⟩) S
   | _=>false
  | _,_,_=>false
 | _=>false
def Vk (S:St) (m:Value) (k:Option Nat->List MapEntry->Nat->Bool):Bool:=
 match m with
 | .map none=>k none [] 0
 | .map (some r)=>rL S.h r fun o=>match o with | .map es c=>k (some r) es c | _=>false
 | _=>false
def IC (t:TypeId) (a b:Value) (k:Bool->Bool):Bool:=
 match a,b with
 | .agg _,.agg _=>pN P t a b k
 | a,b=>wZ P t a b k
def Hy (t:TypeId) (key:Value) (es:List MapEntry) (k:Option (Nat×MapEntry)->Bool):Bool:=
 gX (β:=Nat->Bool) (fun _=>k none)
  (fun e _ ih i=>IC P t key e.key fun b=>match b with | true=>k (some (i,e)) | false=>bX (Nat.succ i) ih) es 0
def RY (t:TypeId) (key:Value):Bool:=
 match kO key with
 | true=>match sE P t with
  | true=>true
  | false=>match QI P t,key with
   | some fs,.agg cs=>Nat.ble fs.length cs.toList.length
   | _,_=>false
 | false=>false
def ID (t:TypeId):Option (TypeId×TypeId):=match P.underlying t with | some (.map k e)=>some (k,e) | _=>none
def zeroV (t:TypeId):Option Value:=(P.info? t).bind (·.zero)
def XE (t:TypeId) (x ix:Value) (ok:Bool) (S:St) (K:VK):Bool:=
 match ID P t with
 | some (kt,et)=>match RY P kt ix,zeroV P et with
  | true,some zero=>Vk S x fun _ es _=>Hy P kt ix es fun r=>
   match r with
   | some (_,e)=>match ok with | true=>K (.tuple ⟨[e.val,.bool true]⟩) S | false=>K e.val S
   | none=>match kO zero with
    | true=>match ok with | true=>K (.tuple ⟨[zero,.bool false]⟩) S | false=>K zero S
    | false=>false
  | _,_=>false
 | none=>false
def FI (t:TypeId) (m key x:Value) (S:St) (k:St->Bool):Bool:=
 match ID P t with
 | some (kt,_)=>match RY P kt key with
  | true=>Vk S m fun r es c=>match r with
   | some r=>Hy P kt key es fun f=>
    match f with
    | some (i,e)=>match Instr.sameBits 10000 e.key key with
     | true=>aDT {e with val:=x} es i fun es=>sV S r (.map es c) k
     | false=>false
    | none=>FE es [{key:=key,val:=x,born:=c}] fun es=>bX (Nat.succ c) fun c=>sV S r (.map es c) k
   | none=>false
  | false=>false
 | none=>false
def Gf (t:TypeId) (m key:Value) (S:St) (K:VK):Bool:=
 match ID P t with
 | some (kt,et)=>match RY P kt key,zeroV P et with
  | true,some zero=>Vk S m fun r es c=>match r with
   | some r=>Hy P kt key es fun f=>
    match f with
    | some (_,e)=>match Instr.sameBits 10000 e.key key with
     | true=>K (.tuple ⟨[e.val,.int .i64 (.ofNat e.born)]⟩) S
     | false=>false
    | none=>match kO zero with
     | true=>FE es [{key:=key,val:=zero,born:=c}] fun es=>bX (Nat.succ c) fun c'=>sV S r (.map es c') fun S=>K (.tuple ⟨[zero,.int .i64 (.ofNat c)]⟩) S
     | false=>false
   | none=>false
  | _,_=>false
 | none=>false
def Tc (n:Nat) (es:List MapEntry) (k:Nat->MapEntry->Bool):Bool:=
 gX (β:=Nat->Bool) (fun _=>false) (fun e _ ih i=>match Nat.beq e.born n with | true=>k i e | false=>bX (Nat.succ i) ih) es 0
def UM (m s x:Value) (S:St) (k:St->Bool):Bool:=
 match s with
 | .int _ (.ofNat n)=>Vk S m fun r es c=>match r with
  | some r=>Tc n es fun i e=>aDT {e with val:=x} es i fun es=>sV S r (.map es c) k
  | none=>false
 | _=>false
def aG3{α:Type} (l:List α) (i:Nat) (k:List α->Bool):Bool:=
 gX (β:=Nat->(List α->Bool)->Bool) (fun _ k=>k []) (fun a t ih i k=>pL i (k t) fun p=>ih p fun t'=>k (a::t')) l i k
def Vl (argTypes:List TypeId) (m key:Value) (S:St) (k:St->Bool):Bool:=
 match argTypes with
 | t::_=>match ID P t with
  | some (kt,_)=>match RY P kt key with
   | true=>Vk S m fun r es c=>match r with
    | none=>k S
    | some r=>Hy P kt key es fun f=>match f with
     | some (i,_)=>aG3 es i fun es=>sV S r (.map es c) k
     | none=>k S
   | false=>false
  | none=>false
 | []=>false
def aKU (n:Nat) (l:List Nat):Bool:=gX (β:=Bool) false (fun m _ ih=>gE (Nat.beq m n) true ih) l
def aAd (seen:List Nat) (es:List MapEntry) (k:List MapEntry->Bool):Bool:=
 gX (β:=(List MapEntry->Bool)->Bool) (fun k=>k []) (fun e _ ih k=>gE (aKU e.born seen) (ih k) (ih fun t=>k (e::t))) es k
def Cd (t:TypeId) (x:Value) (S:St) (K:VK):Bool:=
 match ID P t with
 | some _=>match x with
  | .map none=>zU S (.iter none 0 [] 0) fun i S=>K (.pointer (some ⟨i,0,none⟩)) S
  | .map (some r)=>rL S.h r fun o=>match o with
   | .map _ c=>zU S (.iter (some r) c [] c) fun i S=>K (.pointer (some ⟨i,0,none⟩)) S
   | _=>false
  | _=>false
 | none=>false
def aDW (it:Value) (S:St) (K:VK):Bool:=
 match it with
 | .pointer (some ⟨i,0,none⟩)=>rL S.h i fun o=>match o with
  | .iter none _ _ _=>K (.tuple ⟨[.bool false]⟩) S
  | .iter (some r) since seen last=>rL S.h r fun o=>match o with
   | .map es c=>match xP (fun e=>Nat.blt e.born since) es,Nat.ble since last with
    | true,true=>aAd seen es fun l=>match l with
     | []=>K (.tuple ⟨[.bool false]⟩) S
     | e::t=>xP (fun e=>FE seen [e.born] fun seen=>sV S i (.iter (some r) since seen c) fun S=>K (.tuple ⟨[.bool true,e.key,e.val]⟩) S) (e::t)
    | _,_=>false
   | _=>false
  | _=>false
 | _=>false
def aAe (l:List Nat) (k:Nat->Bool):Bool:=gX (β:=Bool) false (fun n t ih=>match t with | []=>k n | _=>ih) l
def Vm (it:Value) (S:St) (K:VK):Bool:=
 match it with
 | .pointer (some ⟨i,0,none⟩)=>rL S.h i fun o=>match o with
  | .iter (some r) _ seen last=>rL S.h r fun o=>match o with
   | .map es c=>match Nat.beq c last with
    | true=>aAe seen fun b=>Tc b es fun _ e=>K (.tuple ⟨[e.key,e.val]⟩) S
    | false=>false
   | _=>false
  | _=>false
 | _=>false
def YQ (big:Bool) (l:List Value) (j:IntKind) (x:Int) (K:Value->Bool):Bool:=
 gX (β:=Int->Bool) (fun x=>K (.int j x)) (fun v _ ih x=>match v with
  | .int _ y=>gE (gE big (Zv x y) (Zv y x)) (ih y) (ih x)
  | _=>false) l x
def NU (S:St) (size n:Nat) (x:Value) (k:List Value->Bool):Bool:=
 match x with
 | .slice none _ _=>match n with | 0=>k [] | _=>false
 | .slice (some ⟨i,o,sp⟩) _ _=>match n with
  | 0=>k []
  | n+1=>match sp with
   | some (_+1)=>false
   | _=>OH S i o ((n+1)*size) k
 | .string s=>match size with
  | 1=>UI n s.data.toList fun l=>aG2 l k
  | _=>false
 | _=>false
def RZ (x:Value) (k:Nat->Bool):Bool:=
 match x with
 | .slice _ n _=>k n
 | .string s=>KD s.data.toList k
 | _=>false
def SC (elem:TypeId) (old new:List Value) (n:Nat) (from_:Option (Nat×List Value×TypeId×List Nat)) (S:St) (K:VK):Bool:=
 FE old new fun cs=>
  match from_ with
  | none=>zU S (.cells cs elem (.grown [])) fun i S=>K (.slice (some ⟨i,0,some 0⟩) n n) S
  | some (b,vs,e,olds)=>sV S b (.cells vs e .uD) fun S=>zU S (.cells cs elem (.grown (b::olds))) fun i S=>K (.slice (some ⟨i,0,some 0⟩) n n) S
def Rc:Option TypeDesc->Bool
 | some (.slice _) | some .string=>true
 | _=>false
def Re:Option Nat->Bool
 | none | some 0=>true
 | _=>false
def Gg (size:Nat) (new:List Value) (base:Option Addr) (sLen sCap tZ:Nat) (S:St) (K:VK):Bool:=
 match base with
 | some ⟨b,o,sp⟩=>match Re sp,xP kU new with
  | true,true=>bX (o+sLen*size) fun at_=>uQ S b at_ new fun S=>K (.slice (some ⟨b,o,sp⟩) tZ sCap) S
  | _,_=>false
 | none=>false
def Ce (elem:TypeId) (size:Nat) (new:List Value) (base:Option Addr) (sLen tZ:Nat) (S:St) (K:VK):Bool:=
 match base with
 | none=>match sLen with | 0=>SC elem [] new tZ none S K | _=>false
 | some ⟨b,o,none⟩=>OH S b o (sLen*size) fun old=>SC elem old new tZ none S K
 | some ⟨b,o,some 0⟩=>DD S b fun vs e c=>KD vs fun m=>match Nat.beq (o+sLen*size) m,c,cM P e with
  | true,.grown olds,some q=>match Nat.beq q size,xP kU new,Nat.beq e elem with
   | true,true,true=>OH S b o (sLen*size) fun old=>SC elem old new tZ (some (b,vs,e,olds)) S K
   | _,_,_=>false
  | _,_,_=>false
 | _=>false
def QJ (argTypes:List TypeId) (s x:Value) (S:St) (K:VK):Bool:=
 match argTypes with
 | sT::xT::_=>
  match isSlice P sT,Rc (P.underlying xT)with
  | some elem,true=>match P.info? elem with
   | some info=>match info.size,info.zero,s with
    | size+1,some z,.slice base sLen sCap=>match Nat.beq z.cells.size (size+1)with
     | true=>RZ x fun n=>
      match n with
      | 0=>match Nat.ble sLen sCap with | true=>K (.slice base sLen sCap) S | false=>false
      | n'+1=>NU S (size+1) (n'+1) x fun new=>bX (sLen+(n'+1)) fun tZ=>
       match Cc tZ info.bytes with
       | true=>match Nat.ble tZ sCap with
        | true=>Gg (size+1) new base sLen sCap tZ S K
        | false=>Ce P elem (size+1) new base sLen tZ S K
       | false=>false
     | false=>false
    | _,_,_=>false
   | none=>false
  | _,_=>false
 | _=>false
def Td (argTypes:List TypeId) (dst src:Value) (S:St) (K:VK):Bool:=
 match argTypes with
 | dT::_=>match isSlice P dT with
  | some elem=>match cM P elem,dst with
   | some (size+1),.slice base aNM _=>RZ src fun m=>bX (Nat.min m aNM) fun n=>
    match n with
    | 0=>K (.int .i64 (.ofNat 0)) S
    | n'+1=>NU S (size+1) (n'+1) src fun cs=>match base with
     | some ⟨i,o,sp⟩=>match Re sp,xP kU cs with
      | true,true=>uQ S i o cs fun S=>K (.int .i64 (.ofNat (n'+1))) S
      | _,_=>false
     | none=>false
   | _,_=>false
  | none=>false
 | []=>false
def oO (b:Builtin) (argTypes:List TypeId) (args:List Value) (S:St) (K:VK):Bool:=
 match b,args with
 | .len,[x]=>match argTypes with
  | t::_=>match x with
   | .slice _ n _=>match isSlice P t with | some _=>K (.int .i64 (.ofNat n)) S | none=>false
   | .string s=>match P.underlying t with | some .string=>KD s.data.toList fun n=>K (.int .i64 (.ofNat n)) S | _=>false
   | .map _=>match ID P t with | some _=>Vk S x fun _ es _=>KD es fun n=>K (.int .i64 (.ofNat n)) S | none=>false
   | .agg _=>match P.underlying t with | some (.array n _)=>K (.int .i64 (.ofNat n)) S | _=>false
   | _=>false
  | []=>false
 | .append,[s,x]=>QJ P argTypes s x S K
 | .copy,[d,s]=>Td P argTypes d s S K
 | .delete,[m,k]=>Vl P argTypes m k S fun S=>K (.tuple #[]) S
 | .min,.int j x::l=>YQ false l j x fun v=>K v S
 | .max,.int j x::l=>YQ true l j x fun v=>K v S
 | .cap,[x]=>match argTypes with
  | t::_=>match isSlice P t,x with
   | some _,.slice none _ c=>K (.int .i64 (.ofNat c)) S
   | some _,.slice (some ⟨_,_,none⟩) _ c=>K (.int .i64 (.ofNat c)) S
   | _,_=>false
  | []=>false
 | .clear,[.slice base n _]=>match argTypes with
  | t::_=>match isSlice P t with
   | some elem=>match cM P elem,wY P elem with
    | some size,some zero=>match base,n with
     | none,_=>K (.tuple #[]) S
     | some _,0=>K (.tuple #[]) S
     | some ⟨i,o,sp⟩,n+1=>match Re sp,Nat.beq zero.length size,xP bY zero,size with
      | true,true,true,_+1=>aAb zero (n+1) fun cs=>uQ S i o cs fun S=>K (.tuple #[]) S
      | _,_,_,_=>false
    | _,_=>false
   | none=>false
  | []=>false
 | _,_=>false
end ops
structure Env where
 P:Program
 ov:FuncId->Option (List Value->St->VK->Bool)
 call:aDV
 round:Nat->List Value->St->VK->Bool
 most:Nat
def KE (P:Program) (t:TypeId) (name:String):Option FuncId:=match P.info? t,P.underlying t with
 | some info,some d=>match info.methods.find? (·.name==name)with
  | some m=>match m.path.toList,m.func with
   | [],some (g,pr)=>match d,pr with
    | .pointer _,true=>some g
    | .pointer _,false=>none
    | _,false=>some g
    | _,true=>none
   | _,_=>none
  | none=>none
 | _,_=>none
def nC (E:Env) (A:bD) (c:Call) (S:St) (K:VK):Bool:=
 UJ A c.args.toList fun args=>
  match c.callee with
  | .builtin b=>oO E.P b c.argTypes.toList args S K
  | .value f=>vP A f fun f=>match f with
   | .func (.func g) first captured=>FE first.toList args fun l=>FE l captured.toList fun l=>E.call g l S K
   | .func (.yield l) first captured=>match first.toList,captured.toList with
    | [],[]=>E.round l args S K
    | _,_=>false
   | _=>false
  | .invoke r m=>vP A r fun v=>match v with
   | .iface t x=>match KE E.P t m with
    | some g=>E.call g (x::args) S K
    | none=>false
   | _=>false
def Aq (A:bD) (x:Option Operand) (k:Option Value->Bool):Bool:=
 match x with
 | none=>k none
 | some x=>vP A x fun v=>k (some v)
def AN (E:Env) (o:Oper) (A:bD) (S:St) (K:VK):Bool:=
 match o.op with
 | .move x | .assign x=>vP A x fun v=>K v S
 | .pick c a b=>vP A c fun c=>vP A a fun a=>vP A b fun b=>match c with
  | .bool true=>K a S
  | .bool false=>K b S
  | _=>false
 | .alloc t=>UL E.P t S K
 | .box t x=>vP A x fun v=>aAc t v S K
 | .build t ps=>Md E.P A t ps.toList fun v=>K v S
 | .buildSlice t n ps=>BY E.P A t n ps.toList S K
 | .load t a=>vP A a fun a=>OI E.P t a S K
 | .store t a x=>vP A a fun a=>vP A x fun x=>Ao E.P t a x S fun S=>K undef S
 | .nilCheck x=>vP A x fun v=>match v with
  | .pointer (some a)=>K (.pointer (some a)) S
  | .func (.func f) a b=>K (.func (.func f) a b) S
  | .func (.yield f) a b=>K (.func (.yield f) a b) S
  | .func (.method s) ⟨[.iface t w]⟩ ⟨[]⟩=>match KE E.P t s with
   | some _=>K (.func (.method s) ⟨[.iface t w]⟩ ⟨[]⟩) S
   | none=>false
  | .iface t w=>K (.iface t w) S
  | _=>false
 | .binOp op t x y _=>vP A x fun a=>vP A y fun b=>Ap E.P op t a b fun v=>K v S
 | .unOp op _ x=>vP A x fun a=>unK op a fun v=>K v S
 | .convert s d x=>vP A x fun a=>Hx E.P s d a S K
 | .makeInterface t x=>vP A x fun v=>match E.P.underlying t with
  | some (.interface _)=>false
  | some _=>K (.iface t v) S
  | none=>false
 | .makeFunc fn first cap=>match fn with
  | .func f=>UJ A first.toList fun a=>UJ A cap.toList fun b=>K (.func (.func f) ⟨a⟩ ⟨b⟩) S
  | .method s=>match first.toList,cap.toList with
   | [x],[]=>vP A x fun v=>K (.func (.method s) ⟨[v]⟩ ⟨[]⟩) S
   | _,_=>false
  | _=>false
 | .makeMap _ none=>zU S (.map [] 0) fun i S=>K (.map (some i)) S
 | .makeMap t (some r)=>vP A r fun r=>match r,ID E.P t with
  | .int _ _,some _=>zU S (.map [] 0) fun i S=>K (.map (some i)) S
  | _,_=>false
 | .range t x=>vP A x fun x=>Cd E.P t x S K
 | .next it s=>vP A it fun it=>match s with | true=>false | false=>aDW it S K
 | .entry it=>vP A it fun it=>Vm it S K
 | .typeAssert x _ as ok=>vP A x fun v=>match v,E.P.underlying as with
  | .iface _ _,some (.interface _)=>false
  | .iface t w,some _=>match Nat.beq t as,ok with
   | true,true=>K (.tuple ⟨[w,.bool true]⟩) S
   | true,false=>K w S
   | false,_=>false
  | _,_=>false
 | .makeSlice t l c=>vP A l fun l=>vP A c fun c=>xR E.P t l c S K
 | .slice t x lo hi mx=>match mx,hi with
  | some _,none=>false
  | _,_=>vP A x fun x=>Aq A lo fun lo=>Aq A hi fun hi=>Aq A mx fun mx=>uR E.P t x lo hi mx S fun v=>K v S
 | .fieldAddr s x f=>vP A x fun x=>FH E.P s x f fun v=>K v S
 | .field t x f=>vP A x fun x=>UK E.P t x f fun v=>K v S
 | .indexAddr t x ix=>vP A x fun x=>vP A ix fun ix=>FG E.P t x ix fun v=>K v S
 | .index t x ix=>vP A x fun x=>vP A ix fun ix=>Ge E.P t x ix fun v=>K v S
 | .lookup t x ix ok=>vP A x fun x=>vP A ix fun ix=>XE E.P t x ix ok S K
 | .mapUpdate t m k x | .insert t m k x=>vP A m fun m=>vP A k fun k=>vP A x fun x=>FI E.P t m k x S fun S=>K undef S
 | .mapEntry t m k=>vP A m fun m=>vP A k fun k=>Gf E.P t m k S K
 | .entryStore _ m s x=>vP A m fun m=>vP A s fun s=>vP A x fun x=>UM m s x S fun S=>K undef S
 | .extract t i=>vP A t fun v=>match v with
  | .tuple vs=>YB vs.toList i fun v=>K v S
  | _=>false
 | .call c=>nC E A c S K
 | _=>false
def DG (ops:Array Oper) (o:Oper) (A:bD) (k:Bool->Bool):Bool:=
 match o.guard with
 | none=>k true
 | some (j,want)=>match ops[j]? with
  | some o'=>match o'.dst with
   | some d=>XD A.tmps d fun v=>match v with
    | .bool b=>match b,want with | true,true | false,false=>k true | _,_=>k false
    | _=>k false
   | none=>k false
  | none=>k false
def Ar (E:Env) (ops:Array Oper) (o:Oper) (A:bD) (S:St) (k:bD->St->Bool):Bool:=
 DG ops o A fun b=>gE b (AN E o A S fun v S=>mP A o.dst v fun A=>k A S) (mP A o.dst undef fun A=>k A S)
def YC (E:Env) (ops:Array Oper) (l:List Oper) (A:bD) (S:St) (k:bD->St->Bool):Bool:=
 gX (β:=bD->St->Bool) (fun A S=>k A S) (fun o _ ih A S=>Ar E ops o A S ih) l A S
abbrev As:=zG->bD->St->Bool
def aDX (body:bD->St->As->Bool) (most:Nat) (A:bD) (S:St) (K:As):Bool:=
 MF (β:=bD->St->Bool) (fun _ _=>false) (fun _ ih A S=>body A S fun e A S=>match e with | .normal=>ih A S | e=>K e A S) most A S
def At (E:Env) (r:Option Nat) (f:Operand) (params:Array Tmp) (assign body:Code) (A:bD) (S:St) (K:As):Bool:=
 vP A f fun f=>match f with
  | .func (.func g) first captured=>
   let go (A:bD) (S:St):Bool:=zU S (.loop A.tmps params.toList assign body .ready none) fun l S=>
    FE first.toList [.func (.yield l) #[] #[]] fun as=>FE as captured.toList fun as=>E.call g as S fun _ S=>
     rL S.h l fun o=>match o with
      | .loop tm ps as bo st pe=>match st with
       | .busy=>false
       | _=>sV S l (.loop tm ps as bo .exhausted pe) fun S=>match pe with
        | none=>K .normal A S
        | some .ret=>K .ret A S
        | some (.exit id)=>K (.exit id) A S
        | _=>false
      | _=>false
   match r with
   | some l=>rL S.h l fun o=>match o with | .loop _ _ _ _ _ _=>go A S | _=>false
   | none=>zU S .defers fun d S=>go ⟨A.tmps,d::A.marks,A.g⟩ S
  | _=>false
def xU (E:Env) (dr:Array Oper->bD->St->(bD->St->Bool)->Bool) (r:Option Nat) (c:Code):bD->St->As->Bool:=
 aQp (β:=bD->St->As->Bool)
  (fun A S K=>K .normal A S)
  (fun ops draw A S K=>gE draw (dr ops A S fun A S=>K .normal A S) (YC E ops ops.toList A S fun A S=>K .normal A S))
  (fun ha hb A S K=>ha A S fun e A S=>match e with | .normal=>hb A S K | e=>K e A S)
  (fun c ha hb A S K=>vP A c fun v=>match v with | .bool b=>gE b (ha A S K) (hb A S K) | _=>false)
  (fun id h A S K=>h A S fun e A S=>match e with
   | .exit i=>match Nat.beq i id with | true=>K .normal A S | false=>K (.exit i) A S
   | e=>K e A S)
  (fun h A S K=>aDX h E.most A S K)
  (fun h A S K=>h A S K)
  (fun f params assign body A S K=>At E r f params assign body A S K)
  (fun id A S K=>K (.exit id) A S)
  (fun A S K=>K .normal A S)
  (fun A S K=>K .ret A S)
  (fun _ _ _=>false) c
def NW (l:List Nat) (S:St) (k:St->Bool):Bool:=
 gX (β:=St->Bool) (fun S=>k S) (fun d _ ih S=>rL S.h d fun o=>match o with | .defers=>sV S d .dead ih | _=>false) l S
def tB (P:Program) (rs:List ResultVar) (A:bD) (S:St) (k:List Value->Bool):Bool:=
 gX (β:=(List Value->Bool)->Bool) (fun k=>k []) (fun x _ ih k=>match x with
  | .tmp t=>XD A.tmps t fun v=>ih fun vs=>k (v::vs)
  | .cell a t=>XD A.tmps a fun a=>OI P t a S fun v _=>ih fun vs=>k (v::vs)) rs k
def Au (E:Env) (dr:Array Oper->bD->St->(bD->St->Bool)->Bool) (f:FuncId) (args:List Value) (S:St) (K:VK):Bool:=
 match E.P.funcs[f]? with
 | some fn=>match fn.body with
  | some c=>bX fn.ntmps fun n=>aDU n args fun ts=>xU E dr none c ⟨ts,[],E.P.globals.size⟩ S fun e A S=>
   match e with
   | .exit _=>false
   | _=>NW A.marks S fun S=>tB E.P fn.results.toList A S fun vs=>match vs with | [v]=>K v S | vs=>K (.tuple ⟨vs⟩) S
  | none=>false
 | none=>false
def Gh (E:Env) (dr:Array Oper->bD->St->(bD->St->Bool)->Bool) (l:Nat) (args:List Value) (S:St) (K:VK):Bool:=
 rL S.h l fun o=>match o with
  | .loop tmps params assign body _ _=>
   let laid:List Tmp->List Value->Tm->(Tm->Bool)->Bool:=fun ps=>gX (β:=List Value->Tm->(Tm->Bool)->Bool)
    (fun as ts k=>match as with | []=>k ts | _=>false) (fun p _ ih as ts k=>match as with | a::as=>uE a ts p fun ts=>ih as ts k | []=>false) ps
   laid params args tmps fun ts=>xU E dr (some l) assign ⟨ts,[],E.P.globals.size⟩ S fun e A S=>match e with
    | .normal=>rL S.h l fun o=>match o with
     | .loop tm ps as bo .ready pe=>sV S l (.loop tm ps as bo .busy pe) fun S=>xU E dr (some l) body A S fun e _ S=>
      rL S.h l fun o=>match o with
       | .loop tm ps as bo _ _=>match e with
        | .normal=>sV S l (.loop tm ps as bo .ready none) fun S=>K (.bool true) S
        | .ret=>sV S l (.loop tm ps as bo .done (some .ret)) fun S=>K (.bool false) S
        | .exit id=>sV S l (.loop tm ps as bo .done (some (.exit id))) fun S=>K (.bool false) S
       | _=>false
     | _=>false
    | _=>false
  | _=>false
def env (P:Program) (ov:FuncId->Option (List Value->St->VK->Bool)) (dr:Env->Array Oper->bD->St->(bD->St->Bool)->Bool) (most:Nat) (n:Nat):Env:=
 MF (β:=Env) {P,ov,call:=fun _ _ _ _=>false,round:=fun _ _ _ _=>false,most}
  (fun _ E=>{P,ov,call:=fun f args S K=>match ov f with | some g=>g args S K | none=>Au E (dr E) f args S K,round:=fun l args S K=>Gh E (dr E) l args S K,most}) n
section comb
variable{α β:Type}
theorem KI (z:β) (s:Nat->β):pL 0 z s=z:=rfl
theorem Mr (n:Nat) (z:β) (s:Nat->β):pL (n+1) z s=s n:=rfl
theorem vR (z:β) (s:α->List α->β->β):gX z s []=z:=rfl
theorem bV (a:α) (l:List α) (z:β) (s:α->List α->β->β):gX z s (a::l)=s a l (gX z s l):=rfl
theorem Tj (z:β) (s:Nat->β->β):MF z s 0=z:=rfl
theorem aFt (n:Nat) (z:β) (s:Nat->β->β):MF z s (n+1)=s n (MF z s n):=rfl
theorem bJ (n:Nat) (k:Nat->Bool):bX n k=k n:=by cases n<;>rfl
theorem nZ (n:Int) (k:Int->Bool):DC n k=k n:=by cases n<;>simp [DC,aNd,bJ]
theorem pJ (b:Bool) (k:Bool->Bool):Al b k=k b:=by cases b<;>rfl
theorem nE (t:Tr α) (n:Nat) (k:α->Bool):rL t n k=match t.get n with | some x=>k x | none=>false:=by
 induction t generalizing n with
 | leaf=>rfl
 | node v l r ihl ihr=>
  cases n with
  | zero=>cases v<;>rfl
  | succ p=>
   have hd:rL (.node v l r) (p+1) k=(pL (Nat.mod p 2) (rL l (Nat.div p 2) k) fun _=>rL r (Nat.div p 2) k):=rfl;rw [hd];have hm:p%2=0\/p%2=1:=by omega
   rcases hm with hm | hm
   ·have:Nat.mod p 2=0:=hm
    rw [this,KI,ihl];have e1:(p+1) / 2=Nat.div p 2:=by show _=p / 2;omega
    simp only [Tr.get,NO,NS,and_false,if_false,show(p+1)%2=1 by omega,if_true,e1]
   ·have:Nat.mod p 2=1:=hm
    rw [this];show rL r (Nat.div p 2) k=_;rw [ihr];have e1:(p+1) / 2-1=Nat.div p 2:=by show _=p / 2;omega
    simp only [Tr.get,NO,NS,and_false,if_false,show ¬(p+1)%2=1 by omega,e1]
theorem QT (x:α):∀(f:Nat) (t:Tr α) (n:Nat) (k:Tr α->Bool),YA x f t n k=k (Tr.JI x f t n):=by
 intro f;induction f with
 | zero=>intro t n k;rfl
 | succ f ih=>
  intro t n k
  have hs:YA x (f+1) t n k=aDS t
   (pL n (k (.node (some x) .leaf .leaf)) fun p=>pL (Nat.mod p 2) (YA x f .leaf (Nat.div p 2) fun c=>k (.node none c .leaf)) fun _=>YA x f .leaf (Nat.div p 2) fun c=>k (.node none .leaf c))
   (fun v l r=>pL n (k (.node (some x) l r)) fun p=>pL (Nat.mod p 2) (YA x f l (Nat.div p 2) fun c=>k (.node v c r)) fun _=>YA x f r (Nat.div p 2) fun c=>k (.node v l c)):=rfl
  rw [hs];cases t with
  | leaf=>
   cases n with
   | zero=>simp [aDS,Tr.JI,KI]
   | succ p=>
    show(pL (Nat.mod p 2) _ fun _=>_)=_;have hm:p%2=0\/p%2=1:=by omega
    rcases hm with hm | hm
    ·have h0:Nat.mod p 2=0:=hm
     rw [h0,KI,ih];have e1:(p+1) / 2=Nat.div p 2:=by show _=p / 2;omega
     simp [Tr.JI,show(p+1)%2=1 by omega,e1]
    ·have h0:Nat.mod p 2=0+1:=hm
     rw [h0,Mr,ih];have e1:(p+1) / 2-1=Nat.div p 2:=by show _=p / 2;omega
     simp [Tr.JI,show ¬(p+1)%2=1 by omega,e1]
  | node v l r=>
   cases n with
   | zero=>simp [aDS,Tr.JI,KI]
   | succ p=>
    show(pL (Nat.mod p 2) _ fun _=>_)=_;have hm:p%2=0\/p%2=1:=by omega
    rcases hm with hm | hm
    ·have h0:Nat.mod p 2=0:=hm
     rw [h0,KI,ih];have e1:(p+1) / 2=Nat.div p 2:=by show _=p / 2;omega
     simp [Tr.JI,show(p+1)%2=1 by omega,e1]
    ·have h0:Nat.mod p 2=0+1:=hm
     rw [h0,Mr,ih];have e1:(p+1) / 2-1=Nat.div p 2:=by show _=p / 2;omega
     simp [Tr.JI,show ¬(p+1)%2=1 by omega,e1]
theorem Ms (x:α):∀(f:Nat) (t:Tr α) (n m:Nat),n<f->(Tr.JI x f t n).get m=if m=n then some x else t.get m:=by
 intro f;induction f with
 | zero=>intro t n m h;omega
 | succ f ih=>
  intro t n m h;have hl:∀m,(Tr.leaf:Tr α).get m=none:=fun m=>rfl;cases t with
  | leaf=>
   simp only [Tr.JI];by_cases h0:n=0
   ·subst h0
    by_cases hm:m=0<;>simp [Tr.get,hm]
   ·by_cases h1:n%2=1
    ·simp only [h0,h1,if_true,if_false,Tr.get]
     by_cases hm:m=0
     ·subst hm;simp [aP h0]
     ·by_cases h2:m%2=1
      ·rw [aG hm,aO h2,ih _ _ _ (by omega)]
       by_cases e:m=n
       ·subst e;simp
       ·rw [aG e,aG (by omega),hl]
      ·rw [aG hm,aG h2,aG (by omega)]
    ·simp only [h0,h1,if_false,Tr.get]
     by_cases hm:m=0
     ·subst hm;simp [aP h0]
     ·by_cases h2:m%2=1
      ·rw [aG hm,aO h2,aG (by omega)]
      ·rw [aG hm,aG h2,ih _ _ _ (by omega)]
       by_cases e:m=n
       ·subst e;simp
       ·rw [aG e,aG (by omega),hl]
  | node v l r=>
   simp only [Tr.JI];by_cases h0:n=0
   ·subst h0
    by_cases hm:m=0<;>simp [Tr.get,hm]
   ·by_cases h1:n%2=1
    ·simp only [h0,h1,if_true,if_false,Tr.get]
     by_cases hm:m=0
     ·subst hm;simp [aP h0]
     ·by_cases h2:m%2=1
      ·rw [aG hm,aO h2,ih _ _ _ (by omega)]
       by_cases e:m=n
       ·subst e;simp
       ·rw [aG e,aG (by omega),aG hm,aO h2]
      ·rw [aG hm,aG h2,aG (by omega),aG hm,aG h2]
    ·simp only [h0,h1,if_false,Tr.get]
     by_cases hm:m=0
     ·subst hm;simp [aP h0]
     ·by_cases h2:m%2=1
      ·rw [aG hm,aO h2,aG (by omega),aG hm,aO h2]
      ·rw [aG hm,aG h2,ih _ _ _ (by omega)]
       by_cases e:m=n
       ·subst e;simp
       ·rw [aG e,aG (by omega),aG hm,aG h2]
theorem BB (t:Tr α) (n:Nat) (x:α) (m:Nat):(t.put n x).get m=if m=n then some x else t.get m:=Ms x _ t n m (xN n)
theorem aKZ (l:List α) (i:Nat) (k:α->Bool):YB l i k=match l[i]? with | some a=>k a | none=>false:=by
 induction l generalizing i with
 | nil=>rfl
 | cons a l ih=>
  cases i with
  | zero=>rfl
  | succ i=>exact(ih i).trans (by simp)
theorem Ml (v:α) (l:List α) (i:Nat) (k:List α->Bool):aDT v l i k=k (l.set i v):=by
 induction l generalizing i k with
 | nil=>rfl
 | cons a l ih=>
  cases i with
  | zero=>rfl
  | succ i=>exact ih i _
theorem aDY (l:List α) (k:List α->Bool):aKT l k=k l:=by
 induction l generalizing k with
 | nil=>rfl
 | cons a l ih=>exact ih _
theorem nF (l m:List α) (k:List α->Bool):FE l m k=k (l++m):=by
 induction l generalizing k with
 | nil=>rfl
 | cons a l ih=>exact ih _
theorem GZ (n:Nat) (l:List α) (k:List α->Bool):UI n l k=if n<=l.length then k (l.take n)else false:=by
 induction n generalizing l k with
 | zero=>simp [UI,Tj]
 | succ n ih=>
  cases l with
  | nil=>rfl
  | cons a l=>
   show UI n l (fun t'=>k (a::t'))=_;rw [ih];simp
theorem DJ (n:Nat) (l:List α) (k:List α->Bool):MI n l k=if n<=l.length then k (l.drop n)else false:=by
 induction n generalizing l with
 | zero=>simp [MI,Tj]
 | succ n ih=>
  cases l with
  | nil=>rfl
  | cons a l=>
   show MI n l k=_;rw [ih];simp
def bA (off:Nat) (new l:List α):List α:=l.take off++new++l.drop (off+new.length)
theorem aHd (new l:List α) (k:List α->Bool):aAa new l k=if new.length<=l.length then k (new++l.drop new.length)else false:=by
 induction new generalizing l k with
 | nil=>simp [aAa,vR]
 | cons a new ih=>
  cases l with
  | nil=>rfl
  | cons b l=>
   show aAa new l (fun t'=>k (a::t'))=_;rw [ih];simp
theorem BJ (off:Nat) (new l:List α) (k:List α->Bool):sW off new l k=if off+new.length<=l.length then k (bA off new l)else false:=by
 induction off generalizing l k with
 | zero=>
  show aAa new l k=_;rw [aHd];simp [bA]
 | succ off ih=>
  cases l with
  | nil=>show false=_;rw [aG (by simp)]
  | cons b l=>
   show sW off new l (fun t'=>k (b::t'))=_;rw [ih];have:off+1+new.length<=(b::l).length↔off+new.length<=l.length:=by simp;omega
   simp only [this];have e:bA (off+1) new (b::l)=b::bA off new l:=by simp [bA,show off+1+new.length=(off+new.length)+1 by omega]
   rw [e]
theorem GJ (off:Nat) (new l:List α) (h:off+new.length<=l.length):(bA off new l).length=l.length:=by simp [bA];omega
theorem sF (off:Nat) (new l:List α) (h:off+new.length<=l.length) (j:Nat):
 (bA off new l)[j]? =if off<=j/\j<off+new.length then new[j-off]? else l[j]? :=by
 unfold bA;by_cases h1:j<off
 ·rw [aG (by omega),BH,gO (by simp;omega),sC,aO h1]
 ·by_cases h2:j<off+new.length
  ·rw [aO (by omega),BH,kH (by simp;omega),gO (by simp;omega)]
   congr 1;simp;omega
  ·rw [aG (by omega),kH (by simp;omega),qY]
   congr 1;simp;omega
theorem nY (l:List α) (k:Nat->Bool):KD l k=k l.length:=by
 have h:∀(l:List α) (n:Nat),gX (β:=Nat->Bool) (fun n=>k n) (fun _ _ ih n=>bX (Nat.succ n) ih) l n=k (n+l.length):=by
  intro l;induction l with
  | nil=>intro n;rfl
  | cons a l ih=>
   intro n;rw [bV,bJ,ih]
   congr 1;simp;omega
 unfold KD;rw [h,eJ]
theorem GK (z:List α) (n:Nat) (k:List α->Bool):aAb z n k=k (List.replicate n z).flatten:=by
 have h:∀(n:Nat) (acc:List α),MF (β:=List α->Bool) (fun acc=>k acc) (fun _ ih acc=>FE z acc ih) n acc=k ((List.replicate n z).flatten++acc):=by
  intro n;induction n with
  | zero=>intro acc;rfl
  | succ n ih=>
   intro acc;rw [aFt,nF,ih]
   have:(List.replicate n z).flatten++(z++acc)=(List.replicate (n+1) z).flatten++acc:=by
    rw [List.replicate_succ',List.flatten_append];simp
   rw [this]
 unfold aAb;rw [h,FD]
theorem nD (f:α->Bool) (l:List α):xP f l=l.all f:=by
 induction l with
 | nil=>rfl
 | cons a l ih=>
  show gE (f a) (xP f l) false=_;cases h:f a<;>simp [gE,h,ih]
theorem aFr (l:List α) (i:Nat) (k:List α->Bool):aG3 l i k=k (l.eraseIdx i):=by
 induction l generalizing i k with
 | nil=>rfl
 | cons a l ih=>
  cases i with
  | zero=>rfl
  | succ i=>exact ih i _
end comb
theorem aAp (l:List Nat) (h:Tr jB) (k:Tr jB->Bool):Sz l h k=k (l.foldl (fun h i=>h.put i .dead) h):=by
 induction l generalizing h with
 | nil=>rfl
 | cons i l ih=>
  show YA .dead (Nat.succ i) h i (fun h=>Sz l h k)=_;rw [QT,ih];rfl
theorem aAq (l:List Nat) (h:Tr jB) (m:Nat):(l.foldl (fun h i=>h.put i jB.dead) h).get m=if m∈l then some .dead else h.get m:=by
 induction l generalizing h with
 | nil=>simp
 | cons i l ih=>
  rw [Ly,ih,BB];by_cases h1:m∈l
  ·simp [h1]
  ·by_cases h2:m=i
   ·simp [h2]
   ·simp [h1,h2]
def St.set (S:St) (i:Nat) (o:jB):St:=⟨S.h.put i o,S.n⟩
def St.new (S:St) (o:jB):St:=⟨S.h.put S.n o,S.n+1⟩
def St.obj (S:St) (i:Nat):Option jB:=S.h.get i
theorem GM (S:St) (i:Nat) (o:jB) (j:Nat):(S.set i o).obj j=if j=i then some o else S.obj j:=BB _ _ _ _
theorem XH (S:St) (o:jB) (j:Nat):(S.new o).obj j=if j=S.n then some o else S.obj j:=BB _ _ _ _
theorem jF (S:St) (o:jB) (k:Nat->St->Bool):zU S o k=k S.n (S.new o):=by simp [zU,QT,bJ,St.new,Tr.put]
theorem gU (S:St) (i:Nat) (o:jB) (k:St->Bool):sV S i o k=k (S.set i o):=by simp [sV,QT,St.set,Tr.put]
theorem HB{S:St}{i:Nat}{k:List Value->TypeId->CK->Bool} (h:DD S i k=true):∃vs e c,S.obj i=some (.cells vs e c)/\k vs e c=true:=by
 unfold DD at h;rw [nE]at h;cases ho:S.h.get i with
 | none=>simp [ho]at h
 | some o=>cases o<;>simp [ho]at h;exact⟨_,_,_,ho,h⟩
theorem FK{S:St}{i off n:Nat}{k:List Value->Bool} (h:OH S i off n k=true):
 ∃vs e c,S.obj i=some (.cells vs e c)/\off+n<=vs.length/\k ((vs.drop off).take n)=true:=by
 obtain⟨vs,e,c,ho,h⟩:=HB h;rw [DJ]at h;split at h
 ·rw [GZ]at h
  split at h
  ·rename_i h1 h2
   exact⟨vs,e,c,ho,by simp at h2;omega,h⟩
  ·simp at h
 ·simp at h
theorem OM{α:Type}{l:List α}{i:Nat}{k:α->Bool} (h:YB l i k=true):∃a,l[i]? =some a/\k a=true:=by
 rw [aKZ]at h;cases ha:l[i]? with
 | none=>simp [ha]at h
 | some a=>exact⟨a,rfl,by simpa [ha]using h⟩
theorem HC{T:Tm}{i:Nat}{k:Value->Bool} (h:XD T i k=true):∃v,T.t.get i=some v/\k v=true:=by
 unfold XD at h;rw [nE]at h;cases hx:T.t.get i with
 | none=>rw [hx]at h;cases h
 | some x=>rw [hx]at h;exact⟨x,rfl,h⟩
def Tm.put (T:Tm) (i:Nat) (v:Value):Tm:=⟨T.t.put i v,T.n⟩
theorem FL{v:Value}{T:Tm}{i:Nat}{k:Tm->Bool} (h:uE v T i k=true):i<T.n/\k (T.put i v)=true:=by
 unfold uE at h;split at h
 ·rename_i hb
  rw [QT]at h;exact⟨cJ hb,h⟩
 ·cases h
theorem aHe{A:bD}{x:Operand}{k:Value->Bool} (h:vP A x k=true):
 ∃v,k v=true/\((∃t,x= .tmp t/\A.tmps.t.get t=some v)\/(x= .const v/\kO v=true)\/(∃g,x= .global g/\g<A.g/\v= .pointer (some ⟨g,0,none⟩))\/(∃f,x= .func f/\v= .func (.func f) #[] #[])):=by
 cases x with
 | tmp t=>obtain⟨a,ha,hk⟩:=HC h;exact⟨a,hk,.inl ⟨t,rfl,ha⟩⟩
 | const v=>
  cases hf:kO v with
  | true=>exact⟨v,by simpa [vP,hf]using h,.inr (.inl ⟨rfl,hf⟩)⟩
  | false=>simp [vP,hf]at h
 | global g=>
  cases hg:Nat.blt g A.g with
  | true=>exact⟨_,by simpa [vP,hg]using h,.inr (.inr (.inl ⟨g,rfl,cJ hg,rfl⟩))⟩
  | false=>simp [vP,hg]at h
 | func f=>exact⟨_,h,.inr (.inr (.inr ⟨f,rfl,rfl⟩))⟩
end Go.Am
namespace Go.Am
open Go.RowKit
structure Loc where
 b:Nat
 s:Nat
 e:Nat
 m:Nat
abbrev Rn:=Nat->Option Loc
inductive VR (U:Rn):Value->Value->Prop
 | flat {v:Value} (h:bY v=true):VR U v v
 | ptr {i o:Nat} {L:Loc} (h:U i=some L):VR U (.pointer (some ⟨i,o,none⟩)) (.pointer (some ⟨L.b,L.s+o,none⟩))
 | slice {i o n c:Nat} {L:Loc} (h:U i=some L):VR U (.slice (some ⟨i,o,none⟩) n c) (.slice (some ⟨L.b,L.s+o,none⟩) n c)
 | rM {i o n c c':Nat} {L:Loc} (h:U i=some L) (hc:c<=c') (hn:n<=c) (he:L.s+o+c'*L.m=L.e) (hm:0<L.m):VR U (.slice (some ⟨i,o,some 0⟩) n c) (.slice (some ⟨L.b,L.s+o,none⟩) n c')
 | DH {i c':Nat} {a:Addr}:VR U (.slice (some ⟨i,0,some 1⟩) 0 0) (.slice (some a) 0 c')
 | DI {b o s:Nat} {sp:Option Nat} (hs:sp=match s with | 0=>none | k+1=>some k):VR U (.slice (some ⟨b,o,some (s+2)⟩) 0 0) (.slice (some ⟨b,o,sp⟩) 0 0)
 | map {i:Nat} {L:Loc} (h:U i=some L):VR U (.map (some i)) (.map (some L.b))
 | func {f:FuncId} {a a' c c':Array Value} (ha:a.size=a'.size) (hc:c.size=c'.size) (h1:∀(k:Nat) (v v':Value),a.toList[k]? =some v->a'.toList[k]? =some v'->VR U v v')
  (h2:∀(k:Nat) (v v':Value),c.toList[k]? =some v->c'.toList[k]? =some v'->VR U v v'):VR U (.func (.func f) a c) (.func (.func f) a' c')
 | yield {l:Nat} {L:Loc} (h:U l=some L):VR U (.func (.yield l) #[] #[]) (.func (.yield L.b) #[] #[])
 | KJ {s:String} {v v':Value} (h:VR U v v'):VR U (.func (.method s) ⟨[v]⟩ ⟨[]⟩) (.func (.method s) ⟨[v']⟩ ⟨[]⟩)
 | iface {t:TypeId} {v v':Value} (h:VR U v v'):VR U (.iface t v) (.iface t v')
 | agg {a a':Array Value} (ha:a.size=a'.size) (h1:∀(k:Nat) (v v':Value),a.toList[k]? =some v->a'.toList[k]? =some v'->VR U v v'):VR U (.agg a) (.agg a')
 | tuple {a a':Array Value} (ha:a.size=a'.size) (h1:∀(k:Nat) (v v':Value),a.toList[k]? =some v->a'.toList[k]? =some v'->VR U v v'):VR U (.tuple a) (.tuple a')
def lR (U:Rn) (l l':List Value):Prop:=l.length=l'.length/\∀(k:Nat) (v v':Value),l[k]? =some v->l'[k]? =some v'->VR U v v'
def TRs (U:Rn) (T:Tm) (l':List Value):Prop:=T.n=l'.length/\∀(k:Nat) (v:Value),T.t.get k=some v->∃v',l'[k]? =some v'/\VR U v v'
theorem TRs.get{U:Rn}{T:Tm}{l':List Value} (h:TRs U T l'){k:Nat}{v:Value} (hv:T.t.get k=some v):∃v',l'[k]? =some v'/\VR U v v':=h.2 k v hv
theorem TRs.set{U:Rn}{T:Tm}{l':List Value} (h:TRs U T l'){i:Nat} (hi:i<T.n){v v':Value} (hv:VR U v v'):TRs U (T.put i v) (l'.set i v'):=by
 refine⟨by simpa [Tm.put]using h.1,fun k x hx=>?_⟩;have hx:(T.t.put i v).get k=some x:=hx;rw [BB]at hx;have hl:i<l'.length:=by rw [<-h.1];exact hi
 by_cases e:k=i
 ·subst e
  rw [aO rfl]at hx;injection hx with hx;subst hx;exact⟨v',by simp [hl],hv⟩
 ·rw [aG e]at hx
  obtain⟨y,hy,hr⟩:=h.2 k x hx;exact⟨y,by rw [HX (aP e)];exact hy,hr⟩
def Ext (U U':Rn):Prop:=∀i L,U i=some L->U' i=some L
theorem Ext.refl (U:Rn):Ext U U:=fun _ _ h=>h
theorem Ext.trans{a b c:Rn} (h:Ext a b) (k:Ext b c):Ext a c:=fun i L e=>k i L (h i L e)
theorem VR.mono{U U':Rn} (he:Ext U U'){v v':Value} (h:VR U v v'):VR U' v v':=by
 induction h with
 | flat h=>exact .flat h
 | ptr h=>exact .ptr (he _ _ h)
 | slice h=>exact .slice (he _ _ h)
 | rM h hc hn hh hm=>exact .rM (he _ _ h) hc hn hh hm
 | DH=>exact .DH
 | DI hs=>exact .DI hs
 | map h=>exact .map (he _ _ h)
 | func ha hc _ _ i1 i2=>exact .func ha hc i1 i2
 | yield h=>exact .yield (he _ _ h)
 | KJ _ ih=>exact .KJ ih
 | iface _ ih=>exact .iface ih
 | agg ha _ ih=>exact .agg ha ih
 | tuple ha _ ih=>exact .tuple ha ih
theorem lR.mono{U U':Rn} (he:Ext U U'){l l':List Value} (h:lR U l l'):lR U' l l':=⟨h.1,fun k v v' a b=>(h.2 k v v' a b).mono he⟩
theorem TRs.mono{U U':Rn} (he:Ext U U'){T:Tm}{l':List Value} (h:TRs U T l'):TRs U' T l':=⟨h.1,fun k v hv=>let⟨v',a,b⟩:=h.2 k v hv;⟨v',a,b.mono he⟩⟩
theorem lR.nil (U:Rn):lR U [] []:=⟨rfl,by simp⟩
theorem lR.cons{U:Rn}{v v':Value}{l l':List Value} (h:VR U v v') (t:lR U l l'):lR U (v::l) (v'::l'):=by
 refine⟨by simp [t.1],fun k x x' a b=>?_⟩;cases k with
 | zero=>simp at a b;subst a b;exact h
 | succ k=>simp at a b;exact t.2 k x x' a b
theorem lR.head{U:Rn}{v v':Value}{l l':List Value} (h:lR U (v::l) (v'::l')):VR U v v':=h.2 0 v v' rfl rfl
theorem lR.tail{U:Rn}{v v':Value}{l l':List Value} (h:lR U (v::l) (v'::l')):lR U l l':=
 ⟨by simpa using h.1,fun k x x' a b=>h.2 (k+1) x x' (by simpa using a) (by simpa using b)⟩
theorem lR.kV{U:Rn}{l':List Value} (h:lR U [] l'):l'=[]:=sB (by simpa using h.1.symm)
theorem lR.dN{U:Rn}{v:Value}{l l':List Value} (h:lR U (v::l) l'):∃v' t',l'=v'::t'/\VR U v v'/\lR U l t':=by
 cases l' with
 | nil=>have:=h.1;simp at this
 | cons v' t'=>exact⟨v',t',rfl,h.head,h.tail⟩
theorem lR.get{U:Rn}{l l':List Value} (h:lR U l l'){k:Nat}{v:Value} (hv:l[k]? =some v):∃v',l'[k]? =some v'/\VR U v v':=by
 have hk:k<l'.length:=by rw [<-h.1];exact(List.getElem?_eq_some_iff.1 hv).1
 exact⟨l'[k],aT hk,h.2 k v _ hv (aT hk)⟩
theorem lR.get_none{U:Rn}{l l':List Value} (h:lR U l l'){k:Nat} (hv:l[k]? =none):l'[k]? =none:=by
 rw [List.getElem?_eq_none_iff]at*;rw [<-h.1];exact hv
theorem lR.append{U:Rn}{l l' m m':List Value} (h:lR U l l') (k:lR U m m'):lR U (l++m) (l'++m'):=by
 refine⟨by simp [h.1,k.1],fun j v v' a b=>?_⟩;by_cases hj:j<l.length
 ·rw [gO hj]at a
  rw [gO (by rw [<-h.1];exact hj)]at b;exact h.2 j v v' a b
 ·rw [kH (by omega)]at a
  rw [kH (by rw [<-h.1];omega),<-h.1]at b;exact k.2 _ v v' a b
theorem lR.take{U:Rn}{l l':List Value} (h:lR U l l') (n:Nat):lR U (l.take n) (l'.take n):=by
 refine⟨by simp [h.1],fun j v v' a b=>?_⟩;rw [sC]at a b;split at a
 ·rename_i hj;rw [aO hj]at b;exact h.2 j v v' a b
 ·simp at a
theorem lR.drop{U:Rn}{l l':List Value} (h:lR U l l') (n:Nat):lR U (l.drop n) (l'.drop n):=by
 refine⟨by simp [h.1],fun j v v' a b=>?_⟩;rw [qY]at a b;exact h.2 _ v v' a b
theorem lR.bA{U:Rn}{l l' n n':List Value} (h:lR U l l') (k:lR U n n') (off:Nat):lR U (bA off n l) (bA off n' l'):=by
 unfold Am.bA;rw [<-k.1];exact((h.take off).append k).append (h.drop _)
theorem lR.flat{U:Rn}{l:List Value} (h:∀v∈l,bY v=true):lR U l l:=
 ⟨rfl,fun k v v' a b=>by rw [a]at b;injection b with b;subst b;exact .flat (h v (CY a))⟩
theorem lR.flatten{U:Rn}{z z':List Value} (h:lR U z z') (n:Nat):lR U (List.replicate n z).flatten (List.replicate n z').flatten:=by
 induction n with
 | zero=>exact .nil U
 | succ n ih=>simp only [HY,NQ];exact h.append ih
theorem VR.kO{U:Rn}{v:Value} (h:kO v=true):VR U v v:=by
 cases v<;>first
  | exact .flat h
  | (rename_i cs;exact .agg rfl (lR.flat (U:=U) (List.all_eq_true.1 h)).2)
theorem VR.of_flat{U:Rn}{v v':Value} (h:VR U v v') (hf:bY v=true):v'=v:=by
 cases h<;>first | rfl | simp [bY]at hf
theorem VR.MJ{U:Rn}{a:Array Value}{v':Value} (h:VR U (.agg a) v'):∃a',v'= .agg a'/\lR U a.toList a'.toList:=by
 cases h with
 | flat h=>simp [bY]at h
 | agg ha h1=>exact⟨_,rfl,by simpa using ha,h1⟩
theorem VR.OQ{U:Rn}{a:Array Value}{v':Value} (h:VR U (.tuple a) v'):∃a',v'= .tuple a'/\lR U a.toList a'.toList:=by
 cases h with
 | flat h=>simp [bY]at h
 | tuple ha h1=>exact⟨_,rfl,by simpa using ha,h1⟩
theorem VR.Vn{U:Rn}{a a':Array Value} (h:lR U a.toList a'.toList):VR U (.agg a) (.agg a'):= .agg (by simpa using h.1) h.2
theorem VR.pO{U:Rn}{a a':Array Value} (h:lR U a.toList a'.toList):VR U (.tuple a) (.tuple a'):= .tuple (by simpa using h.1) h.2
theorem VR.aG7{U:Rn}{v v':Value} (h:VR U v v') (hf:Am.kO v=true):v'=v:=by
 by_cases ha:∃a,v= .agg a
 ·obtain⟨a,rfl⟩:=ha
  obtain⟨a',rfl,hl⟩:=h.MJ;have QL:∀x∈a.toList,bY x=true:=List.all_eq_true.1 hf
  have:a'.toList=a.toList:=by
   apply xM;intro k;cases hk:a.toList[k]? with
   | none=>exact hl.get_none hk
   | some x=>
    obtain⟨x',Kx,hr⟩:=hl.get hk;rw [Kx,hr.of_flat (QL x (CY hk))]
  rw [Array.toList_inj.1 this]
 ·refine h.of_flat ?_
  cases v<;>first | exact hf | (exact bC ⟨_,rfl⟩ ha)
theorem VR.kU{U:Rn}{v v':Value} (h:VR U v v') (ho:kU v=true):v'.oneCell'=true:=by
 cases h<;>first | rfl | (simp [Am.kU]at ho;done) | (rename_i h;revert ho;cases v<;>simp [Am.kU,Value.oneCell'])
section rel
variable (P:Program) (w0:World)
def Mp (n:Nat) (fz:Nat×Nat):Prop:=∀x,x<n->¬(fz.1<=x/\x<fz.2)
def Wf (L:Loc) (cs:Array Value) (n:Nat) (fz:Nat×Nat) (e t:TypeId):CK->Prop
 | .ro=>cM P e=some L.m
 | .rs=>cM P e=some L.m/\∀j,j<n->¬(fz.1<=L.s+j/\L.s+j<fz.2)
 | .exact=>w0.heap.size<=L.b/\L.s=0/\cs.size=n/\Mp cs.size fz/\t=e
 | .grown _=>w0.heap.size<=L.b/\Mp cs.size fz/\L.e=cs.size/\cM P e=some L.m/\t=e
 | .uD=>w0.heap.size<=L.b/\cM P e=some L.m/\t=e
def UO (U:Rn) (e e':MapEntry):Prop:=e'.key=e.key/\kO e.key=true/\e'.born=e.born/\VR U e.val e'.val
def gS (U:Rn) (l l':List MapEntry):Prop:=l.length=l'.length/\∀(k:Nat) (e e':MapEntry),l[k]? =some e->l'[k]? =some e'->UO U e e'
def IF (U:Rn) (w:World) (i:Nat):jB->Prop
 | .dead=>True
 | .cells vs e k=>∃L cs t fz,U i=some L/\w.heap[L.b]? =some (.cells cs t fz)/\(∀(j:Nat) (v:Value),vs[j]? =some v->∃v',cs[L.s+j]? =some v'/\VR U v v')/\Wf P w0 L cs vs.length fz e t k
 | .map es c=>∃L jQ,U i=some L/\w0.heap.size<=L.b/\w.heap[L.b]? =some (.map jQ c)/\gS U es jQ.toList
 | .loop tmps params assign body st pe=>∃L r,U i=some L/\w0.heap.size<=L.b/\w.heap[L.b]? =some (.loop r)/\r.state=st/\r.pending=pe/\r.params.toList=params/\r.assign=assign/\r.body=body/\TRs U tmps r.tmps.toList
 | .defers=>∃L,U i=some L/\w0.heap.size<=L.b/\w.heap[L.b]? =some (.deferred (some []))
 | .iter none _ _ _=>∃L a b c,(U i=some L/\L.s=0)/\w0.heap.size<=L.b/\w.heap[L.b]? =some (.mapIter none a b c)
 | .iter (some r) since seen last=>∃L M,(U i=some L/\L.s=0)/\w0.heap.size<=L.b/\U r=some M/\w.heap[L.b]? =some (.mapIter (some M.b) since ⟨seen⟩ last)
def jB.BL:jB->Bool
 | .dead=>true
 | _=>false
def jB.reads:jB->Bool
 | .cells _ _ .ro | .cells _ _ .uD | .cells _ _ .rs=>true
 | _=>false
def jB.olds:jB->List Nat
 | .cells _ _ (.grown l)=>l
 | _=>[]
def aG9 (i j:Nat) (a b:jB):Prop:=(a.reads=true/\b.reads=true)\/j∈a.olds\/i∈b.olds
def aAm (U:Rn) (j:Nat) (vs:List Value) (i:Nat) (o:jB):Prop:=
 o= .dead\/∃ws e,o= .cells ws e .uD/\∀L M,U j=some L->U i=some M->M.b=L.b->M.s+ws.length<=L.s+vs.length
structure Rel (U:Rn) (S:St) (w:World):Prop where
 Mm:∀g,g<P.globals.size->∃L,U g=some L/\L.b=g/\L.s=0
 NX:∀i o,S.obj i=some o->IF P w0 U w i o
 dom:∀i,S.n<=i->U i=none
 lt:∀i o,S.obj i=some o->i<S.n
 loc:∀i L,U i=some L->L.b<w.heap.size
 sep:∀i j a b L M,i≠j->S.obj i=some a->S.obj j=some b->a.BL=false->b.BL=false->U i=some L->U j=some M->L.b=M.b->aG9 i j a b
 old:∀j vs e olds,S.obj j=some (.cells vs e (.grown olds))->∀i∈olds,i<S.n/\∀o,S.obj i=some o->aAm U j vs i o
 base:Below w0.heap.size w0 w
end rel
theorem gS.mono{U U':Rn} (he:Ext U U'){l l':List MapEntry} (h:gS U l l'):gS U' l l':=
 ⟨h.1,fun k e e' a b=>let⟨x,y,z,u⟩:=h.2 k e e' a b;⟨x,y,z,u.mono he⟩⟩
theorem IF.frame{P:Program}{w0:World}{U U':Rn}{w w':World}{i:Nat}{o:jB} (he:Ext U U') (hb:∀L,U i=some L->w'.heap[L.b]? =w.heap[L.b]?) (h:IF P w0 U w i o):IF P w0 U' w' i o:=by
 cases o with
 | dead=>trivial
 | cells vs e k=>
  obtain⟨L,cs,t,fz,h1,h2,h3,h4⟩:=h;exact⟨L,cs,t,fz,he _ _ h1,(hb L h1).trans h2,fun j v hj=>let⟨v',a,b⟩:=h3 j v hj;⟨v',a,b.mono he⟩,h4⟩
 | map es c=>
  obtain⟨L,jQ,h1,h2,h3,h4⟩:=h;exact⟨L,jQ,he _ _ h1,h2,(hb L h1).trans h3,h4.mono he⟩
 | loop tmps params assign body st pe=>
  obtain⟨L,r,h1,h2,h3,h4,h5,h6,h7,h8,h9⟩:=h;exact⟨L,r,he _ _ h1,h2,(hb L h1).trans h3,h4,h5,h6,h7,h8,h9.mono he⟩
 | defers=>
  obtain⟨L,h1,h2,h3⟩:=h;exact⟨L,he _ _ h1,h2,(hb L h1).trans h3⟩
 | iter m since seen last=>
  cases m with
  | none=>obtain⟨L,a,b,c,h1,h2,h3⟩:=h;exact⟨L,a,b,c,⟨he _ _ h1.1,h1.2⟩,h2,(hb L h1.1).trans h3⟩
  | some r=>obtain⟨L,M,h1,h2,h3,h4⟩:=h;exact⟨L,M,⟨he _ _ h1.1,h1.2⟩,h2,he _ _ h3,(hb L h1.1).trans h4⟩
theorem IF.loc{P:Program}{w0:World}{U:Rn}{w:World}{i:Nat}{o:jB} (h:IF P w0 U w i o) (hd:o.BL=false):∃L,U i=some L:=by
 cases o with
 | dead=>cases hd
 | cells vs e k=>obtain⟨L,_,_,_,h1,_⟩:=h;exact⟨L,h1⟩
 | map es c=>obtain⟨L,_,h1,_⟩:=h;exact⟨L,h1⟩
 | loop _ _ _ _ _ _=>obtain⟨L,_,h1,_⟩:=h;exact⟨L,h1⟩
 | defers=>obtain⟨L,h1,_⟩:=h;exact⟨L,h1⟩
 | iter m since seen last=>cases m with
  | none=>obtain⟨L,_,_,_,h1,_⟩:=h;exact⟨L,h1.1⟩
  | some r=>obtain⟨L,_,h1,_⟩:=h;exact⟨L,h1.1⟩
def Fr (U:Rn) (w w':World):Prop:=w.heap.size<=w'.heap.size/\∀c,c<w.heap.size->(∀i L,U i=some L->L.b≠c)->w'.heap[c]? =w.heap[c]?
def Nw (U U':Rn) (w:World):Prop:=∀i L,U' i=some L->U i=some L\/w.heap.size<=L.b\/∃j M,U j=some M/\M.b=L.b
structure xV (U:Rn) (w:World) (U':Rn) (w':World):Prop where
 ext:Ext U U'
 fr:Fr U w w'
 nw:Nw U U' w
theorem xV.refl (U:Rn) (w:World):xV U w U w:=⟨.refl U,⟨bQ _,fun _ _ _=>rfl⟩,fun _ _ h=> .inl h⟩
theorem xV.trans{U U1 U2:Rn}{w w1 w2:World} (h:xV U w U1 w1) (k:xV U1 w1 U2 w2):xV U w U2 w2:=by
 refine⟨h.ext.trans k.ext,⟨zR h.fr.1 k.fr.1,fun c hc hn=>?_⟩,fun i L hi=>?_⟩
 ·rw [k.fr.2 c (CZ hc h.fr.1) (fun i L hi=>?_),h.fr.2 c hc hn]
  rcases h.nw i L hi with h1 | h1 | ⟨j,M,h1,h2⟩
  ·exact hn i L h1
  ·omega
  ·rw [<-h2];exact hn j M h1
 ·rcases k.nw i L hi with h1 | h1 | ⟨j,M,h1,h2⟩
  ·exact h.nw i L h1
  ·exact .inr (.inl (zR h.fr.1 h1))
  ·rcases h.nw j M h1 with h3 | h3 | ⟨q,N,h3,h4⟩
   ·exact .inr (.inr ⟨j,M,h3,h2⟩)
   ·exact .inr (.inl (by omega))
   ·exact .inr (.inr ⟨q,N,h3,by omega⟩)
def Rn.put (U:Rn) (i:Nat) (L:Loc):Rn:=fun j=>if j=i then some L else U j
theorem Rn.QR{U:Rn}{i:Nat}{L:Loc} (h:U i=none):Ext U (U.put i L):=fun j M hj=>by
 unfold Rn.put;by_cases e:j=i
 ·subst e;rw [h]at hj;cases hj
 ·rw [aG e];exact hj
theorem Rn.mQ (U:Rn) (i:Nat) (L:Loc):U.put i L i=some L:=aO rfl
section aL
variable{P:Program}{w0:World}{U:Rn}{S:St}{w:World}
theorem Rel.new (h:Rel P w0 U S w) (o:jB) (ob:Obj) (L:Loc) (hL:L.b=w.heap.size)
 (ho:∀U':Rn,Ext U U'->U' S.n=some L->IF P w0 U' (w.alloc ob) S.n o)
 (hold:∀i∈o.olds,i<S.n/\∀x,S.obj i=some x->x= .dead\/∃ws e,x= .cells ws e .uD):
 Rel P w0 (U.put S.n L) (S.new o) (w.alloc ob)/\xV U w (U.put S.n L) (w.alloc ob):=by
 have SH:=h.dom S.n (bQ _);have he:Ext U (U.put S.n L):=Rn.QR SH;have hold:∀k,k<w.heap.size->(w.alloc ob).heap[k]? =w.heap[k]? :=fun k hk=>by show(w.heap.push ob)[k]? =_;rw [Vi,aG (by omega)]
 have hsz:(w.alloc ob).heap.size=w.heap.size+1:=Array.size_push _
 have vQ:∀j M,U.put S.n L j=some M->(j=S.n/\M=L)\/(j≠S.n/\U j=some M):=fun j M hj=>by
  unfold Rn.put at hj;by_cases e:j=S.n
  ·rw [aO e]at hj;injection hj with hj;exact .inl ⟨e,hj.symm⟩
  ·rw [aG e]at hj;exact .inr ⟨e,hj⟩
 have uS:∀j x,(S.new o).obj j=some x->(j=S.n/\x=o)\/(j≠S.n/\S.obj j=some x):=fun j x hx=>by
  rw [XH]at hx;by_cases e:j=S.n
  ·rw [aO e]at hx;injection hx with hx;exact .inl ⟨e,hx.symm⟩
  ·rw [aG e]at hx;exact .inr ⟨e,hx⟩
 refine⟨⟨fun g hg=>let⟨M,h1,h2⟩:=h.Mm g hg;⟨M,he _ _ h1,h2⟩,fun j x hx=>?_,fun j hj=>?_,fun j x hx=>?_,fun j M hj=>?_,fun i j a b M N Ri ha hb hda hdb hM hN Rg=>?_,fun j vs e olds hj i hi=>?_,?_⟩,he,⟨by omega,fun c hc _=>hold c hc⟩,fun j M hj=>?_⟩
 ·rcases uS j x hx with ⟨e,ex⟩ | ⟨e,hx⟩
  ·subst e ex;exact ho _ he (Rn.mQ _ _ _)
  ·exact(h.NX j x hx).frame he fun M hM=>hold _ (h.loc j M hM)
 ·have Vy:S.n+1<=j:=hj
  unfold Rn.put;rw [aG (by omega)];exact h.dom j (by omega)
 ·rcases uS j x hx with ⟨e,_⟩ | ⟨_,hx⟩
  ·subst e;exact xN _
  ·exact sD (h.lt j x hx)
 ·rcases vQ j M hj with ⟨_,e⟩ | ⟨_,hM⟩
  ·subst e;omega
  ·have:=h.loc j M hM;omega
 ·rcases vQ i M hM with ⟨ei,eM⟩ | ⟨ei,EM⟩<;>rcases vQ j N hN with ⟨ej,eN⟩ | ⟨ej,hN'⟩
  ·omega
  ·have:=h.loc j N hN';rw [eM]at Rg;omega
  ·have:=h.loc i M EM;rw [eN]at Rg;omega
  ·rcases uS i a ha with ⟨e,_⟩ | ⟨_,ha'⟩
   ·exact bC e ei
   ·rcases uS j b hb with ⟨e,_⟩ | ⟨_,SD⟩
    ·exact bC e ej
    ·exact h.sep i j a b M N Ri ha' SD hda hdb EM hN' Rg
 ·rcases uS j _ hj with ⟨e1,e2⟩ | ⟨e1,Vy⟩
  ·subst e1 e2
   obtain⟨h1,h2⟩:=hold i hi;refine⟨sD h1,fun x hx=>?_⟩;rcases uS i x hx with ⟨e3,_⟩ | ⟨_,Kx⟩
   ·omega
   ·rcases h2 x Kx with h3 | ⟨ws,e',h3⟩
    ·exact .inl h3
    ·refine .inr ⟨ws,e',h3,fun L1 M hL1 hM hb=>?_⟩
     rcases vQ _ _ hL1 with ⟨_,e4⟩ | ⟨e4,_⟩
     ·rcases vQ _ _ hM with ⟨e5,_⟩ | ⟨_,EM⟩
      ·omega
      ·have:=h.loc i M EM;rw [e4]at hb;omega
     ·exact bC rfl e4
  ·obtain⟨h1,h2⟩:=h.old j vs e olds Vy i hi
   refine⟨sD h1,fun x hx=>?_⟩;rcases uS i x hx with ⟨e3,_⟩ | ⟨e3,Kx⟩
   ·omega
   ·rcases h2 x Kx with h3 | ⟨ws,e',h3,h4⟩
    ·exact .inl h3
    ·refine .inr ⟨ws,e',h3,fun L1 M hL1 hM hb=>?_⟩
     rcases vQ _ _ hL1 with ⟨e4,_⟩ | ⟨_,aN6⟩
     ·exact bC e4 e1
     ·rcases vQ _ _ hM with ⟨e5,_⟩ | ⟨_,EM⟩
      ·exact bC e5 e3
      ·exact h4 L1 M aN6 EM hb
 ·exact⟨h.base.os,h.base.tape,h.base.output,by have:=h.base.size;omega,fun k hk=>(hold k (CZ hk h.base.size)).trans (h.base.block k hk)⟩
 ·rcases vQ j M hj with ⟨_,e⟩ | ⟨_,hM⟩
  ·subst e;exact .inr (.inl (by omega))
  ·exact .inl hM
theorem Rel.drew (h:Rel P w0 U S w):Rel P w0 U S w.drew:=
 ⟨h.Mm,fun i o hi=>(h.NX i o hi).frame (.refl U) fun _ _=>rfl,h.dom,h.lt,h.loc,h.sep,h.old,h.base.os,h.base.tape,h.base.output,h.base.size,h.base.block⟩
theorem xV.drew (U:Rn) (w:World):xV U w U w.drew:=⟨.refl U,⟨bQ _,fun _ _ _=>rfl⟩,fun _ _ h=> .inl h⟩
theorem Rel.aL (h:Rel P w0 U S w){S':St}{w':World}{b:Nat} (hb:w0.heap.size<=b) (Qx:∃i L,U i=some L/\L.b=b) (hn:S'.n=S.n)
 (hsz:w'.heap.size=w.heap.size) (aCm:∀c,c≠b->w'.heap[c]? =w.heap[c]?) (hos:w'.os=w.os) (aQC:w'.tape=w.tape) (aN7:w'.output=w.output)
 (uS:∀j x,S'.obj j=some x->(x.BL=true/\j<S.n)\/(S.obj j=some x/\∀L,U j=some L->L.b≠b)\/(j<S.n/\IF P w0 U w' j x))
 (aSL:∀i j x y L M,i≠j->S'.obj i=some x->S'.obj j=some y->x.BL=false->y.BL=false->U i=some L->U j=some M->L.b=M.b->aG9 i j x y)
 (hold:∀j vs e olds,S'.obj j=some (.cells vs e (.grown olds))->∀i∈olds,i<S.n/\∀o,S'.obj i=some o->aAm U j vs i o):
 Rel P w0 U S' w'/\xV U w U w':=by
 refine⟨⟨h.Mm,fun j x hx=>?_,fun j hj=>h.dom j (by omega),fun j x hx=>?_,fun j L hj=>by rw [hsz];exact h.loc j L hj,aSL,fun j vs e olds hj i hi=>by rw [hn];exact hold j vs e olds hj i hi,?_⟩,.refl U,⟨by omega,fun c _ hc=>?_⟩,fun _ _ h=> .inl h⟩
 ·rcases uS j x hx with ⟨hd,_⟩ | ⟨Kx,hL⟩ | ⟨_,hr⟩
  ·cases x<;>simp [jB.BL]at hd;trivial
  ·exact(h.NX j x Kx).frame (.refl U) fun L hL'=>aCm _ (hL L hL')
  ·exact hr
 ·rw [hn]
  rcases uS j x hx with ⟨_,hl⟩ | ⟨Kx,_⟩ | ⟨hl,_⟩
  ·exact hl
  ·exact h.lt j x Kx
  ·exact hl
 ·exact⟨hos.trans h.base.os,aQC.trans h.base.tape,aN7.trans h.base.output,by have:=h.base.size;omega,fun k hk=>(aCm k (by omega)).trans (h.base.block k hk)⟩
 ·obtain⟨i,L,hi,e⟩:=Qx
  exact aCm c (fun e'=>hc i L hi (by omega))
end aL
theorem Gp (s:ByteArray):s.toList=s.data.toList:=by
 have h:∀(n i:Nat) (r:List UInt8),s.size-i=n->ByteArray.toList.loop s i r=r.reverse++s.data.toList.drop i:=by
  intro n;induction n with
  | zero=>
   intro i r hn;unfold ByteArray.toList.loop;have:¬i<s.size:=by omega
   rw [aG this,Vf (by show s.data.toList.length<=i;have:s.size=s.data.toList.length:=rfl;omega),FD]
  | succ n ih=>
   intro i r hn;unfold ByteArray.toList.loop;have hi:i<s.size:=by omega
   rw [aO hi,ih (i+1) _ (by omega)];have hl:i<s.data.toList.length:=hi;rw [mB hl];have e:s.data[i]! =s.data.toList[i]:=by rw [getElem!_pos s.data i hi];rfl
   simp [ByteArray.get!,e]
 have:=h s.size 0 [] (by omega);simpa [ByteArray.toList]using this
section num
variable{K:Value->Bool}
theorem UV (x y:Int):Zv x y=decide (x<y):=by
 cases x<;>cases y<;>simp only [Zv,Nat.blt]<;>(rw [Lz];simp only [decide_eq_true_eq,Nat.ble_eq];(try simp);omega)
theorem QM (x y:Int):eqI x y=(x==y):=by
 cases x<;>cases y<;>simp only [eqI]<;>(rw [Lz];simp only [Nat.beq_eq,beq_iff_eq];(try simp);try omega)
theorem KH{j k:IntKind} (h:FF j k=true):j=k:=by cases j<;>cases k<;>first | rfl | (simp [FF]at h)
theorem Cz (k:IntKind) (n:Int) (h0:k.min<=n) (h1:n<=k.max):k.wrap n=n:=by
 cases k<;>simp [IntKind.min,IntKind.max,IntKind.bits,IntKind.signed]at h0 h1<;>simp [IntKind.wrap,IntKind.bits,IntKind.signed]<;>omega
theorem KG (k:IntKind) (n:Int):sM k n=k.wrap n:=by
 have hb:∀m c:Nat,Nat.blt m c=true->m<c:=fun m c h=>cJ h;have e1:IntKind.i64.min= -9223372036854775808:=by decide
 have e2:IntKind.i64.max=9223372036854775807:=by decide
 have e3:IntKind.u64.min=0:=by decide
 have e4:IntKind.u64.max=18446744073709551615:=by decide
 have e5:IntKind.u8.min=0:=by decide
 have e6:IntKind.u8.max=255:=by decide
 cases k
 case i64=>
  cases n with
  | ofNat m=>
   unfold sM;dsimp only;split
   ·rename_i h;have:=hb _ _ h;exact(Cz .i64 (m:Int) (by omega) (by omega)).symm
   ·rfl
  | negSucc m=>
   unfold sM;dsimp only;split
   ·rename_i h;have:=hb _ _ h;exact(Cz .i64 (Int.negSucc m) (by omega) (by omega)).symm
   ·rfl
 case u64=>
  cases n with
  | ofNat m=>
   unfold sM;dsimp only;split
   ·rename_i h;have:=hb _ _ h;exact(Cz .u64 (m:Int) (by omega) (by omega)).symm
   ·rfl
  | negSucc m=>rfl
 case u8=>
  cases n with
  | ofNat m=>
   unfold sM;dsimp only;split
   ·rename_i h;have:=hb _ _ h;exact(Cz .u8 (m:Int) (by omega) (by omega)).symm
   ·rfl
  | negSucc m=>rfl
 all_goals rfl
theorem Wm (k:IntKind) (n:Int):NT k n K=K (.int k (k.wrap n)):=by simp [NT,nZ,KG]
theorem rO (b:Bool):oN b K=K (.bool b):=by simp [oN,pJ]
theorem Ru{op:BinOp}{k:IntKind}{x y:Int} (h:QG op k x y K=true):
 ∃v,K v=true/\bY v=true/\op≠ .shl/\op≠ .shr/\∀(P:Program) (t:TypeId) (w:World),(binOp op t (.int k x) (.int k y)).run P w= .ok v w:=by
 have ea:∀a b:Int,Int.add a b=a+b:=fun _ _=>rfl;have es:∀a b:Int,Int.sub a b=a-b:=fun _ _=>rfl;have em:∀a b:Int,Int.mul a b=a*b:=fun _ _=>rfl;cases op<;>simp only [QG,Wm,rO,nZ,UV,QM,ea,es,em]at h
 case quo=>
  split at h
  ·cases h
  ·rename_i hy
   have hy':y≠0:=by simpa using hy
   exact⟨_,h,rfl,by simp,by simp,fun P t w=>by simp [binOp,Op.intDiv,hy']⟩
 case rem=>
  split at h
  ·cases h
  ·rename_i hy
   have hy':y≠0:=by simpa using hy
   exact⟨_,h,rfl,by simp,by simp,fun P t w=>by simp [binOp,Op.intDiv,hy']⟩
 all_goals first
  | cases h;done
  | exact⟨_,h,rfl,by simp,by simp,fun P t w=>by first | (simp [binOp,Op.intArith,Op.intBits,Op.intCmp,bne];done) | (simp [binOp,Op.intCmp];rw [Lz];simp)⟩
theorem Da{op:BinOp}{k k':IntKind}{x y:Int} (h:An op k x y K=true):
 ∃v,K v=true/\bY v=true/\∀(P:Program) (t:TypeId) (w:World),(binOp op t (.int k x) (.int k' y)).run P w= .ok v w:=by
 unfold An at h;rw [UV]at h;split at h
 ·cases h
 ·rename_i hy
  have hy':¬y<0:=by simpa using hy
  cases op<;>simp only [Wm,nZ]at h<;>first
   | cases h;done
   | exact⟨_,h,rfl,fun P t w=>by simp [binOp,Op.shift,hy']⟩
end num
section str
variable{K:Value->Bool}
theorem XI (a b:UInt8):Nat.beq a.toNat b.toNat=true↔a=b:=by
 rw [Nat.beq_eq];exact⟨fun h=>UInt8.toNat_inj.1 h,fun h=>by rw [h]⟩
theorem QN (a b:List UInt8):Mc a b=(a==b):=by
 induction a generalizing b with
 | nil=>cases b<;>rfl
 | cons x a ih=>
  cases b with
  | nil=>rfl
  | cons y b=>
   show(match Nat.beq x.toNat y.toNat with | true=>Mc a b | false=>false)=_;cases h:Nat.beq x.toNat y.toNat with
   | true=>simp only [ih];have:=(XI x y).1 h;subst this;simp
   | false=>
    have:x≠y:=fun e=>by rw [(XI x y).2 e]at h;cases h
    simp [this]
theorem aD6 (a b:List UInt8):aFo a b=Op.bytesLess a b:=by
 induction a generalizing b with
 | nil=>cases b<;>rfl
 | cons x a ih=>
  cases b with
  | nil=>rfl
  | cons y b=>
   show(match Nat.blt x.toNat y.toNat with | true=>true | false=>match Nat.beq x.toNat y.toNat with | true=>aFo a b | false=>false)=_;simp only [Op.bytesLess];cases h:Nat.blt x.toNat y.toNat with
   | true=>
    have:x<y:=by rw [UInt8.lt_iff_toNat_lt];have:=cJ h;omega
    simp [this]
   | false=>
    have:¬x<y:=by
     rw [UInt8.lt_iff_toNat_lt];intro hh;have:Nat.blt x.toNat y.toNat=true:=nO hh;rw [this]at h;cases h
    cases h2:Nat.beq x.toNat y.toNat with
    | true=>have e:=(XI x y).1 h2;subst e;simp [ih]
    | false=>
     have e:x≠y:=fun e=>by rw [(XI x y).2 e]at h2;cases h2
     simp [this,e]
theorem aFH (a b:ByteArray):a++b=⟨⟨a.data.toList++b.data.toList⟩⟩:=by
 apply ByteArray.ext;apply Array.toList_inj.1;simp
theorem Rv{op:BinOp}{x y:ByteArray} (h:Vj op x y K=true):
 ∃v,K v=true/\bY v=true/\∀(P:Program) (t:TypeId) (w:World),(binOp op t (.string x) (.string y)).run P w= .ok v w:=by
 cases op<;>simp only [Vj,rO,QN,aD6]at h
 case add=>
  simp only [nY]at h;split at h
  ·rename_i hb
   rw [nF]at h;have hlt:x.size+y.size<9223372036854775808:=by have:=cJ hb;have e1:x.size=x.data.toList.length:=rfl;have e2:y.size=y.data.toList.length:=rfl;omega
   refine⟨_,h,rfl,fun P t w=>?_⟩;simp [binOp,Op.stringOp,aFH];omega
  ·cases h
 all_goals first
  | cases h;done
  | exact⟨_,h,rfl,fun P t w=>by simp [binOp,Op.stringOp,Gp]⟩
end str
theorem rN (b off n:Nat):(⟨b,off,none⟩:Addr).add n=⟨b,off+n,none⟩:=by
 unfold Addr.add;split
 ·rename_i h;subst h;rfl
 ·rfl
section run
variable{P:Program}{w:World}
theorem run_loadCellsFrom (a:Addr):∀(m:List Value) (i:Nat) (acc:Array Value),(∀(j:Nat) (v:Value),m[j]? =some v->w.cell? (a.add (i+j))=some v)->
 (loadCellsFrom a i m.length acc).run P w= .ok (acc++m.toArray) w:=by
 intro m;induction m with
 | nil=>intro i acc _;simp [loadCellsFrom]
 | cons v m ih=>
  intro i acc h;have h0:=h 0 v rfl;rw [UH]at h0
  have h1:=ih (i+1) (acc.push v) fun j x hj=>by
   have:=h (j+1) x (by simpa using hj)
   rwa [show i+(j+1)=i+1+j by omega]at this
  simp [loadCellsFrom,h0,h1]
theorem run_loadCells (a:Addr) (m:List Value){n:Nat} (hn:m.length=n) (h:∀(j:Nat) (v:Value),m[j]? =some v->w.cell? (a.add j)=some v):
 (loadCells a n).run P w= .ok ⟨m⟩ w:=by
 subst hn;have:=run_loadCellsFrom (P:=P) a m 0 #[] (by simpa using h);simpa [loadCells]using this
theorem aAR{b off:Nat}{cs:Array Value}{t:TypeId}{fz:Nat×Nat} (h:w.heap[b]? =some (.cells cs t fz)) (v:Value):
 w.setCell ⟨b,off,none⟩ v=w.putObj b (.cells (cs.setIfInBounds off v) t fz):=by
 unfold World.setCell World.putObj
 congr 1
 apply Array.ext_getElem?;intro k;rw [Array.getElem?_modify,aCc];by_cases e:b=k
 ·subst e
  obtain⟨hlt,hb⟩:=Array.getElem?_eq_some_iff.1 h;simp [hb,hlt]
 ·simp [e]
theorem Ry (b:Nat) (x y:Obj):(w.putObj b x).putObj b y=w.putObj b y:=by
 unfold World.putObj
 congr 1
 apply Array.ext_getElem?;intro k;simp only [aCc,Array.size_setIfInBounds];by_cases e:b=k<;>simp [e]
theorem VM{b:Nat}{x:Obj} (h:w.heap[b]? =some x):w.putObj b x=w:=by
 unfold World.putObj
 have:w.heap.setIfInBounds b x=w.heap:=by
  apply Array.ext_getElem?;intro k;rw [aCc];by_cases e:b=k
  ·subst e
   obtain⟨hlt,hb⟩:=Array.getElem?_eq_some_iff.1 h;simp [hb,hlt]
  ·simp [e]
 rw [this]
theorem QS{b:Nat}{x y:Obj} (h:w.heap[b]? =some y):(w.putObj b x).heap[b]? =some x:=World.putObj_heap_same (Array.getElem?_eq_some_iff.1 h).1
theorem yP{b c:Nat}{x:Obj} (h:c≠b):(w.putObj b x).heap[c]? =w.heap[c]? :=World.putObj_heap_other h
theorem putObj_size (b:Nat) (x:Obj):(w.putObj b x).heap.size=w.heap.size:=by simp [World.putObj]
theorem DM:∀(new:List Value) (w:World) (b off i:Nat) (cs:Array Value) (t:TypeId) (fz:Nat×Nat),w.heap[b]? =some (.cells cs t fz)->off+i+new.length<=cs.size->
 (∀x,off+i<=x->x<off+i+new.length->¬(fz.1<=x/\x<fz.2))->(∀v∈new,v.oneCell'=true)->
 (storeCells ⟨b,off,none⟩ new i).run P w= .ok () (w.putObj b (.cells ⟨bA (off+i) new cs.toList⟩ t fz)):=by
 intro new;induction new with
 | nil=>
  intro w b off i cs t fz h hs _ _;have e:bA (off+i) [] cs.toList=cs.toList:=by simp [bA]
  rw [e];simp [storeCells,VM h]
 | cons v new ih=>
  intro w b off i cs t fz h hs hfz h1;have hlt:off+i<cs.size:=by simp at hs;omega
  have hc:w.cell? ⟨b,off+i,none⟩=some cs[off+i]:=by simp [World.cell?,h,hlt]
  have hf:w.frozen? ⟨b,off+i,none⟩=false:=by
   have:=hfz (off+i) (bQ _) (by simp);simp only [World.frozen?,h];simpa using this
  have fU:(store (⟨b,off+i,none⟩:Addr) v).run P w= .ok () (w.putObj b (.cells (cs.setIfInBounds (off+i) v) t fz)):=by
   rw [run_store P w _ v .plain (h1 v (by simp)),hc,hf,aAR h];rfl
  have hih:=ih (w.putObj b (.cells (cs.setIfInBounds (off+i) v) t fz)) b off (i+1) (cs.setIfInBounds (off+i) v) t fz (QS h)
   (by simp at hs ⊢;omega) (fun x hx hy=>hfz x (by omega) (by simp;omega)) (fun u hu=>h1 u (by simp [hu]))
  have es:bA (off+(i+1)) new (cs.setIfInBounds (off+i) v).toList=bA (off+i) (v::new) cs.toList:=by
   apply xM;intro j;have hl:cs.toList.length=cs.size:=rfl;rw [sF _ _ _ (by simp at hs ⊢;omega),sF _ _ _ (by simp at hs ⊢;omega)];simp only [ZU,oX];by_cases h2:j=off+i
   ·subst h2
    rw [aG (by omega),aO (by omega),Nat.sub_self];simp [hlt]
   ·by_cases h3:off+(i+1)<=j/\j<off+(i+1)+new.length
    ·rw [aO h3,aO (by omega)]
     obtain⟨q,rfl⟩:∃q,j=off+i+(q+1):=⟨j-(off+i+1),by omega⟩;rw [show off+i+(q+1)-(off+(i+1))=q by omega,show off+i+(q+1)-(off+i)=q+1 by omega];simp
    ·rw [aG h3,aG (by omega),HX (by omega)]
  simp only [storeCells,rN];rw [cP,fU,eI,hih,Ry,es]
end run
section mem
variable{P:Program}{w0:World}{U:Rn}{S:St}{w:World}
theorem Rel.cells (h:Rel P w0 U S w){i:Nat}{vs:List Value}{e:TypeId}{k:CK} (ho:S.obj i=some (.cells vs e k)){L:Loc} (hL:U i=some L):
 ∃cs t fz,w.heap[L.b]? =some (.cells cs t fz)/\(∀(j:Nat) (v:Value),vs[j]? =some v->∃v',cs[L.s+j]? =some v'/\VR U v v')/\Wf P w0 L cs vs.length fz e t k:=by
 obtain⟨M,cs,t,fz,h1,h2,h3,h4⟩:=h.NX i _ ho;rw [hL]at h1;injection h1 with h1;subst h1;exact⟨cs,t,fz,h2,h3,h4⟩
theorem cell_of{b:Nat}{cs:Array Value}{t:TypeId}{fz:Nat×Nat} (h:w.heap[b]? =some (.cells cs t fz)){j:Nat}{v:Value} (hj:cs[j]? =some v):w.cell? ⟨b,j,none⟩=some v:=by
 simp [World.cell?,h,hj]
theorem Rel.JT (h:Rel P w0 U S w){i:Nat}{vs:List Value}{e:TypeId}{k:CK} (ho:S.obj i=some (.cells vs e k)){L:Loc} (hL:U i=some L){off n:Nat} (hn:off+n<=vs.length):
 ∃l',lR U ((vs.drop off).take n) l'/\l'.length=n/\∀(j:Nat) (v:Value),l'[j]? =some v->w.cell? ((⟨L.b,L.s+off,none⟩:Addr).add j)=some v:=by
 obtain⟨cs,t,fz,h2,h3,_⟩:=h.cells ho hL;refine⟨(List.range n).map fun j=>cs.getD (L.s+(off+j)) undef,⟨by simp;omega,fun j v v' a b=>?_⟩,by simp,fun j v hj=>?_⟩
 ·rw [sC]at a
  split at a
  ·rename_i hj
   rw [qY]at a;obtain⟨u,hu,hr⟩:=h3 _ v a;simp [hj]at b;have:cs.getD (L.s+(off+j)) undef=u:=by simp [Vd,hu]
   simp [Vd]at this;rw [<-b,this];exact hr
  ·cases a
 ·have Vy:j<n:=by have:=(List.getElem?_eq_some_iff.1 hj).1;simpa using this
  simp [Vy]at hj;have hlt:off+j<vs.length:=by omega
  obtain⟨u,hu,_⟩:=h3 (off+j) vs[off+j] (aT hlt);rw [rN,show L.s+off+j=L.s+(off+j)by omega];rw [cell_of h2 hu]
  congr 1
  rw [<-hj];simp [hu]
theorem Rel.aHx (h:Rel P w0 U S w){i:Nat}{vs:List Value}{e:TypeId}{k:CK} (ho:S.obj i=some (.cells vs e k)){L:Loc} (hL:U i=some L){o:Nat}{v:Value} (hv:vs[o]? =some v):
 ∃v',w.cell? ⟨L.b,L.s+o,none⟩=some v'/\VR U v v':=by
 obtain⟨cs,t,fz,h2,h3,_⟩:=h.cells ho hL;obtain⟨u,hu,hr⟩:=h3 o v hv;exact⟨u,cell_of h2 hu,hr⟩
theorem KF{t:TypeId}{b:Bool} (h:xQ P t=some b) (w:World):(isAgg t).run P w= .ok b w:=by
 unfold xQ at h;cases hu:P.underlying t with
 | none=>simp [hu]at h
 | some d=>
  simp [hu]at h;simp only [isAgg,cP,run_underlying hu,eI];subst h;cases d<;>rfl
theorem jE{t:TypeId}{n:Nat} (h:cM P t=some n) (w:World):(sizeOf t).run P w= .ok n w:=by
 unfold cM at h;cases hu:P.info? t with
 | none=>simp [hu]at h
 | some i=>simp [hu]at h;simp [sizeOf,typeInfo,hu,h]
theorem aG6{t:TypeId}{i:TypeInfo} (h:P.info? t=some i) (w:World):(typeInfo t).run P w= .ok i w:=by simp [typeInfo,h]
theorem FJ{t:TypeId}{z:List Value} (h:wY P t=some z) (w:World):∃v,(zeroValue t).run P w= .ok v w/\v.cells.toList=z:=by
 unfold wY at h;cases hu:P.info? t with
 | none=>simp [hu]at h
 | some i=>
  cases hz:i.zero with
  | none=>simp [hu,hz]at h
  | some v=>simp [hu,hz]at h;exact⟨v,by simp [zeroValue,typeInfo,hu,hz],h⟩
theorem UW (h:Rel P w0 U S w){t:TypeId}{a a':Value}{K:VK} (hk:OI P t a S K=true) (ha:VR U a a'):
 ∃v v',K v S=true/\VR U v v'/\(Instr.loadAt t a').run P w= .ok v' w:=by
 unfold OI at hk;split at hk
 ·rename_i i o
  cases ha with
  | flat h=>simp [bY]at h
  | ptr hL=>
   rename_i L;split at hk
   ·rename_i aCe
    obtain⟨vs,e,c,ho,hk⟩:=HB hk;obtain⟨v,hv,hk⟩:=OM hk;obtain⟨v',hc,hr⟩:=h.aHx ho hL hv;refine⟨v,v',hk,hr,?_⟩;simp [Instr.loadAt,Instr.sureAddr,loadVar,KF aCe,hc]
   ·rename_i aCe
    split at hk
    ·rename_i n hsz
     obtain⟨vs,e,c,ho,hn,hk⟩:=FK hk;obtain⟨l',hr,hl,hc⟩:=h.JT ho hL hn;refine⟨_,.agg ⟨l'⟩,hk,.Vn hr,?_⟩;simp [Instr.loadAt,Instr.sureAddr,loadVar,KF aCe,jE hsz,run_loadCells _ l' hl hc]
    ·cases hk
   ·cases hk
 ·cases hk
end mem
section mem
variable{P:Program}{w0:World}{U:Rn}{S:St}{w:World}
theorem Tv:∀{new l:List Value},Gd new l=true->(∀v∈new,bY v=true)/\∀(j:Nat) (v:Value),new[j]? =some v->l[j]? =some v:=by
 intro new;induction new with
 | nil=>intro l _;exact⟨by simp,by simp⟩
 | cons a new ih=>
  intro l h;unfold Gd at h;rw [bV]at h;cases l with
  | nil=>cases h
  | cons b t=>
   have h2:(match(generalizing:=false) a,b with
    | .int j x,.int k y=>match FF j k with
     | true=>match eqI x y with | true=>Gd new t | false=>false
     | false=>false
    | _,_=>false)=true:=h
   split at h2
   ·split at h2
    ·rename_i hk
     split at h2
     ·rename_i hx
      have e1:=KH hk;rw [QM]at hx;have e2:=eq_of_beq hx;subst e1 e2;have h:Gd new t=true:=h2;obtain⟨i1,i2⟩:=ih h;refine⟨fun v hv=>?_,fun j v hj=>?_⟩
      ·rcases List.mem_cons.1 hv with e | hv
       ·subst e;rfl
       ·exact i1 v hv
      ·cases j with
       | zero=>simpa using hj
       | succ j=>simpa using i2 j v (by simpa using hj)
     ·cases h2
    ·cases h2
   ·cases h2
theorem DL (h:Rel P w0 U S w){i off:Nat}{new new':List Value}{k:St->Bool} (hk:uQ S i off new k=true){L:Loc} (hL:U i=some L)
 (hn:lR U new new') (h1:∀v∈new',v.oneCell'=true):
 ∃S' w',k S'=true/\Rel P w0 U S' w'/\xV U w U w'/\(storeCells ⟨L.b,L.s+off,none⟩ new').run P w= .ok () w':=by
 obtain⟨vs,e,c,ho,hk⟩:=HB hk;obtain⟨cs,t,fz,hb,hcell,DS⟩:=h.cells ho hL
 have key:∀(S':St) (kd:CK) (olds:List Nat),S'.n=S.n->(∀j,S'.obj j=if j=i then some (.cells (bA off new vs) e kd)else if j∈olds then some .dead else S.obj j)->
  off+new.length<=vs.length->w0.heap.size<=L.b->Mp cs.size fz->(jB.cells vs e c).reads=false->(∀l,kd= .grown l->l=[])->(jB.cells vs e c).olds=olds->(jB.cells (bA off new vs) e kd).reads=false->
  (∀j∈olds,j<S.n)->
  (∀cs':Array Value,cs'.size=cs.size->Wf P w0 L cs' vs.length fz e t kd)->
  Rel P w0 U S' (w.putObj L.b (.cells ⟨bA (L.s+off) new' cs.toList⟩ t fz))/\xV U w U (w.putObj L.b (.cells ⟨bA (L.s+off) new' cs.toList⟩ t fz))/\
   (storeCells ⟨L.b,L.s+off,none⟩ new').run P w= .ok () (w.putObj L.b (.cells ⟨bA (L.s+off) new' cs.toList⟩ t fz)):=by
  intro S' kd olds hSn uS hlen hB hth VO hkd holds aSy aOg hKR
  have hvl:∀j,j<vs.length->L.s+j<cs.size:=fun j hj=>by
   obtain⟨v',ON,_⟩:=hcell j vs[j] (aT hj);exact(Array.getElem?_eq_some_iff.1 ON).1
  have Ay:new.length=0\/L.s+off+new'.length<=cs.size:=by
   rcases NP new.length with hz | hz
   ·exact .inl hz
   ·right
    have:=hvl (off+new.length-1) (by omega);rw [<-hn.1];omega
  have wK:cs.toList.length=cs.size:=rfl
  have hsz:(⟨bA (L.s+off) new' cs.toList⟩:Array Value).size=cs.size:=by
   rcases Ay with hz | hz
   ·have:new'=[]:=sB (by rw [<-hn.1];exact hz)
    subst this;simp [bA]
   ·show(bA (L.s+off) new' cs.toList).length=_
    rw [GJ _ _ _ (by omega)];exact wK
  have Cn:∀j:Nat,(⟨bA (L.s+off) new' cs.toList⟩:Array Value)[j]? =if L.s+off<=j/\j<L.s+off+new'.length then new'[j-(L.s+off)]? else cs[j]? :=by
   intro j;rcases Ay with hz | hz
   ·have:new'=[]:=sB (by rw [<-hn.1];exact hz)
    subst this;rw [aG (by simp)];simp [bA]
   ·have:=sF (L.s+off) new' cs.toList (by omega) j
    simpa using this
  have Vp:IF P w0 U (w.putObj L.b (.cells ⟨bA (L.s+off) new' cs.toList⟩ t fz)) i (.cells (bA off new vs) e kd):=by
   refine⟨L,_,t,fz,hL,QS hb,fun j v hj=>?_,by rw [GJ _ _ _ hlen];exact hKR _ hsz⟩;rw [sF _ _ _ hlen]at hj;rw [Cn];split at hj
   ·rename_i hr
    rw [aO (by have:=hn.1;omega)];obtain⟨v',ON,hr'⟩:=hn.get hj;exact⟨v',by rw [show L.s+j-(L.s+off)=j-off by omega];exact ON,hr'⟩
   ·rename_i hr
    rw [aG (by have:=hn.1;omega)];exact hcell j v hj
  have aCu:∀j x M,j≠i->j∉olds->S.obj j=some x->x.BL=false->U j=some M->M.b≠L.b:=by
   intro j x M hj hjo hx hd hM SD;rcases h.sep i j _ x L M (aP hj) ho hx rfl hd hL hM SD.symm with ⟨hr,_⟩ | hs | hs
   ·rw [VO]at hr;cases hr
   ·rw [holds]at hs;exact hjo hs
   ·cases x with
    | cells ws e' kk=>
     cases kk with
     | grown l=>
      obtain⟨_,h2⟩:=h.old j ws e' l hx i hs;rcases h2 _ ho with h3 | ⟨_,_,h3,_⟩
      ·cases h3
      ·injection h3 with _ _ h3;subst h3;simp [jB.reads]at VO
     | _=>simp [jB.olds]at hs
    | _=>simp [jB.olds]at hs
  have DK:∀j x,S'.obj j=some x->(j=i/\x= .cells (bA off new vs) e kd)\/(j≠i/\j∈olds/\x= .dead)\/(j≠i/\j∉olds/\S.obj j=some x):=by
   intro j x hx;rw [uS]at hx;by_cases e1:j=i
   ·rw [aO e1]at hx;injection hx with hx;exact .inl ⟨e1,hx.symm⟩
   ·rw [aG e1]at hx
    by_cases e2:j∈olds
    ·rw [aO e2]at hx;injection hx with hx;exact .inr (.inl ⟨e1,e2,hx.symm⟩)
    ·rw [aG e2]at hx;exact .inr (.inr ⟨e1,e2,hx⟩)
  have hrel:=h.aL (S':=S') (w':=w.putObj L.b (.cells ⟨bA (L.s+off) new' cs.toList⟩ t fz)) (b:=L.b) hB ⟨i,L,hL,rfl⟩ hSn (putObj_size _ _) (fun c hc=>yP hc) rfl rfl rfl
   (fun j x hx=>by
    rcases DK j x hx with ⟨e1,e2⟩ | ⟨e1,e2,e3⟩ | ⟨e1,e2,Kx⟩
    ·subst e1 e2;exact .inr (.inr ⟨h.lt _ _ ho,Vp⟩)
    ·subst e3;exact .inl ⟨rfl,aOg _ e2⟩
    ·cases hd:x.BL with
     | true=>exact .inl ⟨rfl,h.lt _ _ Kx⟩
     | false=>exact .inr (.inl ⟨Kx,fun M hM=>aCu j x M e1 e2 Kx hd hM⟩))
   (fun p q x y M N hpq hx hy hdx hdy hM hN Rg=>by
    rcases DK p x hx with ⟨e1,e2⟩ | ⟨_,_,e3⟩ | ⟨e1,e2,Kx⟩
    ·rcases DK q y hy with ⟨f1,_⟩ | ⟨_,_,f3⟩ | ⟨f1,f2,hy'⟩
     ·exact bC (e1.trans f1.symm) hpq
     ·subst f3;cases hdy
     ·subst e1;rw [hL]at hM;injection hM with hM;subst hM
      exact bC Rg.symm (aCu q y N f1 f2 hy' hdy hN)
    ·subst e3;cases hdx
    ·rcases DK q y hy with ⟨f1,_⟩ | ⟨_,_,f3⟩ | ⟨f1,f2,hy'⟩
     ·subst f1;rw [hL]at hN;injection hN with hN;subst hN
      exact bC Rg (aCu p x M e1 e2 Kx hdx hM)
     ·subst f3;cases hdy
     ·exact h.sep p q x y M N hpq Kx hy' hdx hdy hM hN Rg)
   (fun j ws e' l hj q hq=>by
    rcases DK j _ hj with ⟨e1,e2⟩ | ⟨_,_,e3⟩ | ⟨e1,e2,Vy⟩
    ·injection e2 with _ _ e2
     have:=hkd l e2.symm;subst this;cases hq
    ·cases e3
    ·obtain⟨g1,g2⟩:=h.old j ws e' l Vy q hq
     refine⟨g1,fun o hqo=>?_⟩;rcases DK q o hqo with ⟨f1,f2⟩ | ⟨_,_,f3⟩ | ⟨_,_,hq'⟩
     ·subst f1
      rcases g2 _ ho with g3 | ⟨_,_,g3,_⟩
      ·cases g3
      ·injection g3 with _ _ g3;subst g3;simp [jB.reads]at VO
     ·exact .inl f3
     ·exact g2 o hq')
  refine⟨hrel.1,hrel.2,?_⟩;rcases Ay with hz | hz
  ·have:new'=[]:=sB (by rw [<-hn.1];exact hz)
   subst this;have e1:bA (L.s+off) [] cs.toList=cs.toList:=by simp [bA]
   rw [e1,VM hb];simp [storeCells]
  ·have:=DM (P:=P) new' w L.b (L.s+off) 0 cs t fz hb (by omega) (fun x hx hy=>hth x (by omega)) h1
   simpa using this
 have aQN:Gd new (vs.drop off)=true->k S=true->(∀j,j<vs.length->¬(fz.1<=L.s+j/\L.s+j<fz.2))->
  ∃S' w',k S'=true/\Rel P w0 U S' w'/\xV U w U w'/\(storeCells ⟨L.b,L.s+off,none⟩ new').run P w= .ok () w':=by
  intro hs vO hth;obtain⟨s1,s2⟩:=Tv hs
  have hnn:new'=new:=by
   apply xM;intro j;cases hj:new[j]? with
   | none=>exact hn.get_none hj
   | some v=>
    obtain⟨v',ON,hr⟩:=hn.get hj;rw [ON,hr.of_flat (s1 v (CY hj))]
  subst hnn
  have aQO:∀j v,new'[j]? =some v->cs[L.s+off+j]? =some v:=fun j v hj=>by
   obtain⟨v',ON,hr⟩:=hcell (off+j) v (by have:=s2 j v hj;rw [qY]at this;exact this);rw [<-uP]at ON;rw [ON,hr.of_flat (s1 v (CY hj))]
  have aSS:∀j,j<new'.length->off+j<vs.length:=fun j hj=>by
   have:=s2 j new'[j] (aT hj);rw [qY]at this;exact(List.getElem?_eq_some_iff.1 this).1
  rcases NP new'.length with hz | hz
  ·have:new'=[]:=sB hz
   subst this;exact⟨S,w,vO,h,.refl U w,by simp [storeCells]⟩
  ·have hle:L.s+off+new'.length<=cs.size:=by
    have:=aQO (new'.length-1) _ (aT (by omega));have:=(Array.getElem?_eq_some_iff.1 this).1;omega
   have fU:=DM (P:=P) new' w L.b (L.s+off) 0 cs t fz hb (by omega) (fun x hx hy=>by
    have:=hth (x-L.s) (by have:=aSS (x-L.s-off) (by omega);omega)
    rwa [show L.s+(x-L.s)=x by omega]at this) h1
   have BA:bA (L.s+off) new' cs.toList=cs.toList:=by
    apply xM;intro j;rw [sF _ _ _ (by simpa using hle)];split
    ·rename_i hj
     rw [aT (by omega)];have:=aQO (j-(L.s+off)) _ (aT (by omega));rw [show L.s+off+(j-(L.s+off))=j by omega]at this;simpa using this.symm
    ·rfl
   refine⟨S,w,vO,h,.refl U w,?_⟩;have e:w.putObj L.b (.cells ⟨bA (L.s+off) new' cs.toList⟩ t fz)=w:=by rw [BA];exact VM hb
   simpa [e]using fU
 cases c with
 | exact=>
  simp only [BJ]at hk;split at hk
  ·rename_i hlen
   rw [gU]at hk;obtain⟨g1,g2,g3,g4⟩:=DS
   obtain⟨r1,r2,r3⟩:=key (S.set i (.cells (bA off new vs) e .exact)) .exact [] rfl (fun j=>by rw [GM];simp) hlen g1 g4.1 rfl (by simp) rfl rfl (by simp)
    (fun cs' aLf=>⟨g1,g2,by omega,by rw [aLf];exact g4⟩)
   exact⟨_,_,hk,r1,r2,r3⟩
  ·cases hk
 | grown olds=>
  have vO:(MI off vs fun l=>match Gd new l with | true=>k S | false=>sW off new vs fun vs=>Sz olds S.h fun h=>YA (.cells vs e (.grown [])) (Nat.succ i) h i fun h=>k ⟨h,S.n⟩)=true:=hk;clear hk;rw [DJ]at vO;split at vO
  ·cases hs:Gd new (vs.drop off)with
   | true=>
    rw [hs]at vO;obtain⟨g1,g2,g3,g4⟩:=DS;refine aQN hs vO fun j hj=>g2 _ ?_;obtain⟨v',ON,_⟩:=hcell j _ (aT hj);exact(Array.getElem?_eq_some_iff.1 ON).1
   | false=>
    rw [hs]at vO;have hk:=vO;clear vO;simp only [BJ]at hk;split at hk
    ·rename_i hlen
     rw [aAp,QT]at hk;obtain⟨g1,g2,g3,g4⟩:=DS
     obtain⟨r1,r2,r3⟩:=key ⟨Tr.JI (jB.cells (bA off new vs) e (CK.grown [])) i.succ (olds.foldl (fun h i=>h.put i jB.dead) S.h) i,S.n⟩ (.grown []) olds rfl (fun j=>by
      show Tr.get (Tr.JI _ (i+1) _ i) j=_;rw [Ms _ _ _ _ _ (xN i),aAq];rfl) hlen g1 g2 rfl (fun l hl=>by injection hl with hl;exact hl.symm) rfl rfl
      (fun j hj=>(h.old i vs e olds ho j hj).1) (fun cs' aLf=>⟨g1,by rw [aLf];exact g2,by rw [aLf];exact g3,g4⟩)
     exact⟨_,_,hk,r1,r2,r3⟩
    ·cases hk
  ·cases vO
 | rs=>
  have vO:(MI off vs fun l=>match Gd new l with | true=>k S | false=>false)=true:=hk;rw [DJ]at vO;split at vO
  ·cases hs:Gd new (vs.drop off)with
   | true=>rw [hs]at vO;exact aQN hs vO DS.2
   | false=>rw [hs]at vO;cases vO
  ·cases vO
 | uD=>cases hk
 | ro=>cases hk
theorem GI{v:Value}{k:List Value->Bool} (hk:pM v k=true){v':Value} (hv:VR U v v'):
 ∃cs,k cs=true/\(∀x∈cs,kU x=true)/\lR U cs v'.cells.toList/\cs=v.cells.toList:=by
 unfold pM at hk;split at hk
 ·rename_i cs
  rw [nD]at hk;split at hk
  ·rename_i ha
   obtain⟨a',rfl,hl⟩:=hv.MJ;exact⟨_,hk,List.all_eq_true.1 ha,hl,rfl⟩
  ·cases hk
 ·cases hk
 ·rename_i h1 h2
  have hc:v.cells= #[v]:=by cases v<;>first | rfl | exact bC rfl (h1 _)
  have ho:kU v=true:=by cases v<;>first | rfl | exact bC rfl (h1 _) | exact bC rfl (h2 _)
  have hc':v'.cells= #[v']:=by have:=hv.kU ho;cases v'<;>first | rfl | (simp [Value.oneCell']at this)
  exact⟨_,hk,by simpa using ho,by rw [hc'];exact .cons hv (.nil U),by rw [hc]⟩
theorem Co{l l':List Value} (h:lR U l l') (h1:∀x∈l,kU x=true):∀v∈l',v.oneCell'=true:=by
 intro v hv;obtain⟨j,hj⟩:=ZW hv;have hlt:j<l.length:=by rw [h.1];exact(List.getElem?_eq_some_iff.1 hj).1
 exact(h.2 j l[j] v (aT hlt) hj).kU (h1 _ (cO _))
theorem Wb (h:Rel P w0 U S w){t:TypeId}{a a' x x':Value}{k:St->Bool} (hk:Ao P t a x S k=true) (ha:VR U a a') (hx:VR U x x'):
 ∃S' w',k S'=true/\Rel P w0 U S' w'/\xV U w U w'/\(Instr.storeAt t a' x').run P w= .ok () w':=by
 unfold Ao at hk;split at hk
 ·rename_i i o
  cases ha with
  | flat h=>simp [bY]at h
  | ptr hL=>
   rename_i L;split at hk
   ·rename_i n hsz
    obtain⟨cs,hk,h1,wK,_⟩:=GI hk hx;rw [nY]at hk;split at hk
    ·rename_i hn
     have hn':cs.length=n:=dH hn;obtain⟨S',w',xA,r1,r2,r3⟩:=DL h hk hL wK (Co wK h1);refine⟨S',w',xA,r1,r2,?_⟩;have aLe:x'.cells.size=n:=by rw [<-hn',wK.1];rfl
     simp [Instr.storeAt,Instr.sureAddr,storeVar,jE hsz,aLe,r3]
    ·cases hk
   ·cases hk
 ·cases hk
theorem Rel.aG4 (h:Rel P w0 U S w){cs cs':List Value} (wK:lR U cs cs') (t:TypeId) (m:Nat):
 Rel P w0 (U.put S.n ⟨w.heap.size,0,cs'.length,m⟩) (S.new (.cells cs t .exact)) (w.alloc (.cells ⟨cs'⟩ t))/\xV U w (U.put S.n ⟨w.heap.size,0,cs'.length,m⟩) (w.alloc (.cells ⟨cs'⟩ t)):=by
 refine h.new _ _ _ rfl (fun U' he hU'=>⟨_,⟨cs'⟩,t,(0,0),hU',?_,fun j v hj=>?_,?_⟩) (by simp [jB.olds])
 ·show(w.heap.push _)[w.heap.size]? =_;simp
 ·obtain⟨v',ON,hr⟩:=wK.get hj
  exact⟨v',by simpa using ON,hr.mono he⟩
 ·exact⟨h.base.size,rfl,wK.1.symm,fun x _ hx=>by simp at hx,rfl⟩
theorem Rel.aAg (h:Rel P w0 U S w){cs cs' more:List Value} (wK:lR U cs cs') (e:TypeId){m:Nat} (hm:cM P e=some m) (fz:Nat×Nat) (hfz:Mp (cs'++more).length fz) (olds:List Nat)
 (hold:∀i∈olds,i<S.n/\∀x,S.obj i=some x->x= .dead\/∃ws e,x= .cells ws e .uD):
 Rel P w0 (U.put S.n ⟨w.heap.size,0,(cs'++more).length,m⟩) (S.new (.cells cs e (.grown olds))) (w.alloc (.cells ⟨cs'++more⟩ e fz))/\xV U w (U.put S.n ⟨w.heap.size,0,(cs'++more).length,m⟩) (w.alloc (.cells ⟨cs'++more⟩ e fz)):=by
 refine h.new _ _ _ rfl (fun U' he hU'=>⟨_,⟨cs'++more⟩,e,fz,hU',?_,fun j v hj=>?_,?_⟩) hold
 ·show(w.heap.push _)[w.heap.size]? =_;simp
 ·obtain⟨v',ON,hr⟩:=wK.get hj
  refine⟨v',?_,hr.mono he⟩;have hlt:j<cs'.length:=(List.getElem?_eq_some_iff.1 ON).1;have e1:(⟨cs'++more⟩:Array Value)[0+j]? =(cs'++more)[j]? :=by simp
  exact e1.trans (by rw [gO hlt];exact ON)
 ·exact⟨h.base.size,hfz,rfl,hm,rfl⟩
end mem
section mem
variable{P:Program}{w0:World}{U:Rn}{S:St}{w:World}
structure BK (P:Program) (U:Rn) (A:bD) (a:Act):Prop where
 tmps:TRs U A.tmps a.tmps.toList
 g:A.g=P.globals.size
theorem aX (h:Rel P w0 U S w){A:bD}{a:Act} (hA:BK P U A a){x:Operand}{k:Value->Bool} (hk:vP A x k=true):∃v,k v=true/\VR U v (a.eval x):=by
 obtain⟨v,hv,h1⟩:=aHe hk;refine⟨v,hv,?_⟩;rcases h1 with ⟨t,rfl,ht⟩ | ⟨rfl,hf⟩ | ⟨g,rfl,hg,rfl⟩ | ⟨f,rfl,rfl⟩
 ·obtain⟨v',ON,hr⟩:=hA.tmps.get ht
  have e:a.tmps.getD t undef=v':=by
   rw [Lu]at ON;simp [Vd,ON]
  show VR U v (a.tmps.getD t undef);rw [e];exact hr
 ·exact .kO hf
 ·obtain⟨L,h1,h2,h3⟩:=h.Mm g (by rw [<-hA.g];exact hg)
  have:=VR.ptr (o:=0) h1;rw [h2,h3]at this;exact this
 ·exact .func rfl rfl (by simp) (by simp)
theorem BO (h:Rel P w0 U S w){A:bD}{a:Act} (hA:BK P U A a):∀{xs:List Operand} {k:List Value->Bool},UJ A xs k=true->∃vs,k vs=true/\lR U vs (xs.map a.eval):=by
 intro xs;induction xs with
 | nil=>intro k hk;exact⟨[],hk,.nil U⟩
 | cons x xs ih=>
  intro k hk;obtain⟨v,hv,hr⟩:=aX h hA (show vP A x (fun v=>UJ A xs fun vs=>k (v::vs))=true from hk);obtain⟨vs,KL,hrs⟩:=ih hv;exact⟨v::vs,KL,.cons hr hrs⟩
theorem FM (h:Rel P w0 U S w){A:bD}{a:Act} (hA:BK P U A a){x:Option Operand}{k:Option Value->Bool} (hk:Aq A x k=true):
 ∃v,k v=true/\(v=none/\x=none\/∃u y,v=some u/\x=some y/\VR U u (a.eval y)):=by
 cases x with
 | none=>exact⟨none,hk,.inl ⟨rfl,rfl⟩⟩
 | some x=>obtain⟨v,hv,hr⟩:=aX h hA (show vP A x (fun v=>k (some v))=true from hk);exact⟨some v,hv,.inr ⟨v,x,rfl,rfl,hr⟩⟩
theorem aAr{A:bD}{a:Act} (hA:BK P U A a){d:Option Tmp}{v v':Value} (hv:VR U v v'){k:bD->Bool} (hk:mP A d v k=true):
 ∃A',k A'=true/\BK P U A' (a.put d v')/\A'.marks=A.marks:=by
 cases d with
 | none=>exact⟨A,hk,hA,rfl⟩
 | some d=>
  obtain⟨hd,hk⟩:=FL (show uE v A.tmps d (fun ts=>k ⟨ts,A.marks,A.g⟩)=true from hk);exact⟨_,hk,⟨by simpa [Act.put]using hA.tmps.set hd hv,hA.g⟩,rfl⟩
theorem BK.mono{U':Rn} (he:Ext U U'){A:bD}{a:Act} (h:BK P U A a):BK P U' A a:=⟨h.tmps.mono he,h.g⟩
theorem Rz{t:TypeId}{a b a' b':Value}{k:Bool->Bool} (hk:wZ P t a b k=true) (ha:VR U a a') (hb:VR U b b'):
 ∃e,k e=true/\bY a=true/\bY b=true/\sE P t=true/\∀(d:Nat) (w:World),(Op.equalIn (d+1) t a' b').run P w= .ok e w:=by
 unfold wZ at hk;split at hk
 ·rename_i kd hu
  split at hk
  ·rename_i j x l y
   split at hk
   ·rename_i hj
    rw [pJ,QM]at hk;have:=KH hj;subst this;rw [ha.of_flat rfl,hb.of_flat rfl];exact⟨_,hk,rfl,rfl,by simp [sE,hu],fun d w=>run_equalIn_int w d t j kd x y hu⟩
   ·cases hk
  ·cases hk
 ·rename_i hu
  split at hk
  ·rename_i x y
   rw [pJ,QN,<-Gp,<-Gp]at hk;rw [ha.of_flat rfl,hb.of_flat rfl];exact⟨_,hk,rfl,rfl,by simp [sE,hu],fun d w=>run_equalIn_string w d t x y hu⟩
  ·cases hk
 ·rename_i hu
  split at hk
  ·rename_i x y
   rw [pJ]at hk;rw [ha.of_flat rfl,hb.of_flat rfl];exact⟨_,hk,rfl,rfl,by simp [sE,hu],fun d w=>run_equalIn_bool' w d t x y hu⟩
  ·cases hk
 ·cases hk
theorem aCv{t:TypeId} (h:sE P t=true):xQ P t=some false:=by
 unfold sE at h;unfold xQ;split at h<;>rename_i hu<;>first | (rw [hu];rfl) | cases h
theorem UQ{t:TypeId} (h:sE P t=true){cs:Array Value}{off:Nat}{v:Value} (hv:cs.toList[off]? =some v) (w:World):(part t cs off).run P w= .ok v w:=by
 rw [Lu]at hv;simp [part,KF (aCv h),hv]
theorem Nr:∀(fs:List Field) (i:Nat) (a b:List Value) (X Y:Array Value) (k:Bool->Bool),xS P i fs=true->OJ P fs a b k=true->
 lR U a (X.toList.drop i)->lR U b (Y.toList.drop i)->∃e,k e=true/\∀(d:Nat) (w:World),(Op.eqFields (d+1) X Y fs).run P w= .ok e w:=by
 intro fs;induction fs with
 | nil=>intro i a b X Y k _ hk _ _;exact⟨true,hk,fun d w=>rfl⟩
 | cons f fs ih=>
  intro i a b X Y k hp hk ha hb;simp only [xS,dZ,beq_iff_eq,bne_iff_ne]at hp;obtain⟨⟨⟨aD0,aFq⟩,xJ⟩,xX⟩:=hp;cases a with
  | nil=>cases hk
  | cons x a=>
   cases b with
   | nil=>cases hk
   | cons y b=>
    have xA:wZ P f.type x y (fun e=>match e with | true=>OJ P fs a b k | false=>k false)=true:=hk;obtain⟨x',tx,ex,hx,htx⟩:=ha.dN;obtain⟨y',ty,ey,hy,hty⟩:=hb.dN;obtain⟨e,he,_,_,_,fU⟩:=Rz xA hx hy;have gx:X.toList[i]? =some x':=by have:=jY (·[0]?) ex;simpa [qY]using this
    have gy:Y.toList[i]? =some y':=by have:=jY (·[0]?) ey;simpa [qY]using this
    have dx:X.toList.drop (i+1)=tx:=by have:=jY List.tail ex;simpa [List.tail_drop]using this
    have dy:Y.toList.drop (i+1)=ty:=by have:=jY List.tail ey;simpa [List.tail_drop]using this
    cases e with
    | false=>
     refine⟨false,he,fun d w=>?_⟩;simp [Op.eqFields,aD0,aFq,UQ xJ gx,UQ xJ gy,fU]
    | true=>
     obtain⟨e,he,hr⟩:=ih (i+1) a b X Y k xX he (by rw [dx];exact htx) (by rw [dy];exact hty);refine⟨e,he,fun d w=>?_⟩;simp [Op.eqFields,aD0,aFq,UQ xJ gx,UQ xJ gy,fU,hr]
theorem HA{t:TypeId}{fs:List Field} (h:QI P t=some fs):P.underlying t=some (.struct (P.fieldsOf t))/\(P.fieldsOf t).toList=fs/\xS P 0 fs=true/\P.stoodInHeld t=false/\P.eqGuardType P.depth t=false:=by
 unfold QI at h;split at h
 ·rename_i gs hu
  split at h
  ·rename_i hc
   injection h with h;simp only [dZ,KB]at hc;have e:P.fieldsOf t=gs:=by simp [Program.fieldsOf,hu]
   rw [e];exact⟨hu,h,by rw [<-h];exact hc.1.1,hc.1.2,hc.2⟩
  ·cases h
 ·cases h
section aST
variable (w:World) (d:Nat){t:TypeId}
theorem aSU{e:TypeId} (h:P.underlying t=some (.pointer e)) (a:Addr):(Op.equalIn (d+1) t (.pointer (some a)) (.pointer none)).run P w= .ok false w:=by simp [Op.equalIn,run_underlying h]
theorem aSV{e:TypeId} (h:P.underlying t=some (.pointer e)) (a:Addr):(Op.equalIn (d+1) t (.pointer none) (.pointer (some a))).run P w= .ok false w:=by simp [Op.equalIn,run_underlying h]
theorem aSW{e:TypeId} (h:P.underlying t=some (.pointer e)):(Op.equalIn (d+1) t (.pointer none) (.pointer none)).run P w= .ok true w:=by simp [Op.equalIn,run_underlying h]
theorem aSX{e:TypeId} (h:P.underlying t=some (.slice e)) (a:Addr) (n c m q:Nat):(Op.equalIn (d+1) t (.slice (some a) n c) (.slice none m q)).run P w= .ok false w:=by simp [Op.equalIn,run_underlying h]
theorem aSY{e:TypeId} (h:P.underlying t=some (.slice e)) (a:Addr) (n c m q:Nat):(Op.equalIn (d+1) t (.slice none m q) (.slice (some a) n c)).run P w= .ok false w:=by simp [Op.equalIn,run_underlying h]
theorem aSZ{e:TypeId} (h:P.underlying t=some (.slice e)) (n c m q:Nat):(Op.equalIn (d+1) t (.slice none m q) (.slice none n c)).run P w= .ok true w:=by simp [Op.equalIn,run_underlying h]
theorem aS0{e f:TypeId} (h:P.underlying t=some (.map e f)) (a:Nat):(Op.equalIn (d+1) t (.map (some a)) (.map none)).run P w= .ok false w:=by simp [Op.equalIn,run_underlying h]
theorem aS1{e f:TypeId} (h:P.underlying t=some (.map e f)) (a:Nat):(Op.equalIn (d+1) t (.map none) (.map (some a))).run P w= .ok false w:=by simp [Op.equalIn,run_underlying h]
theorem aS2{e f:TypeId} (h:P.underlying t=some (.map e f)):(Op.equalIn (d+1) t (.map none) (.map none)).run P w= .ok true w:=by simp [Op.equalIn,run_underlying h]
theorem aQP{e f:Array TypeId}{v:Bool} (h:P.underlying t=some (.func e f v)) (a:Fn) (x y:Array Value):(Op.equalIn (d+1) t (.func a x y) .nilFunc).run P w= .ok false w:=by simp [Op.equalIn,run_underlying h]
theorem aQQ{e f:Array TypeId}{v:Bool} (h:P.underlying t=some (.func e f v)) (a:Fn) (x y:Array Value):(Op.equalIn (d+1) t .nilFunc (.func a x y)).run P w= .ok false w:=by simp [Op.equalIn,run_underlying h]
theorem aQR{e f:Array TypeId}{v:Bool} (h:P.underlying t=some (.func e f v)):(Op.equalIn (d+1) t .nilFunc .nilFunc).run P w= .ok true w:=by simp [Op.equalIn,run_underlying h]
theorem aQS{m:Array (String×TypeId)} (h:P.underlying t=some (.interface m)) (u:TypeId) (x:Value):(Op.equalIn (d+1) t (.iface u x) .nilIface).run P w= .ok false w:=by simp [Op.equalIn,run_underlying h]
theorem aQT{m:Array (String×TypeId)} (h:P.underlying t=some (.interface m)) (u:TypeId) (x:Value):(Op.equalIn (d+1) t .nilIface (.iface u x)).run P w= .ok false w:=by simp [Op.equalIn,run_underlying h]
end aST
def aS3:Value->Value->Prop
 | .pointer (some _),v'=>∃a,v'= .pointer (some a)
 | .slice (some _) _ _,v'=>∃a:Addr×Nat×Nat,v'= .slice (some a.1) a.2.1 a.2.2
 | .map (some _),v'=>∃b,v'= .map (some b)
 | .func _ _ _,v'=>∃a:Fn×Array Value×Array Value,v'= .func a.1 a.2.1 a.2.2
 | .iface t _,v'=>∃u,v'= .iface t u
 | .pointer none,v'=>∃_:Unit,v'= .pointer none
 | .slice none n c,v'=>∃_:Unit,v'= .slice none n c
 | .map none,v'=>∃_:Unit,v'= .map none
 | .nilFunc,v'=>∃_:Unit,v'= .nilFunc
 | .nilIface,v'=>∃_:Unit,v'= .nilIface
 | _,_=>True
theorem VR.look{v v':Value} (h:VR U v v'):aS3 v v':=by
 cases h with
 | flat h=>
  cases v
  case pointer a=>cases a with | none=>exact⟨(),rfl⟩ | some a=>simp [bY]at h
  case slice a n c=>cases a with | none=>exact⟨(),rfl⟩ | some a=>simp [bY]at h
  case map a=>cases a with | none=>exact⟨(),rfl⟩ | some a=>simp [bY]at h
  case func=>simp [bY]at h
  case iface=>simp [bY]at h
  case nilFunc=>exact⟨(),rfl⟩
  case nilIface=>exact⟨(),rfl⟩
  all_goals trivial
 | ptr _=>exact⟨_,rfl⟩
 | slice _=>exact⟨(_,_,_),rfl⟩
 | rM _ _ _ _ _=>exact⟨(_,_,_),rfl⟩
 | DH=>exact⟨(_,_,_),rfl⟩
 | DI _=>exact⟨(_,_,_),rfl⟩
 | map _=>exact⟨_,rfl⟩
 | func _ _ _ _=>exact⟨(_,_,_),rfl⟩
 | yield _=>exact⟨(_,_,_),rfl⟩
 | KJ _=>exact⟨(_,_,_),rfl⟩
 | iface _=>exact⟨_,rfl⟩
 | agg _ _=>trivial
 | tuple _ _=>trivial
theorem QO{t:TypeId}{a b a' b':Value}{k:Bool->Bool} (hk:pN P t a b k=true) (ha:VR U a a') (hb:VR U b b'):
 ∃e,k e=true/\(∀(w:World),(Op.equal t a' b').run P w= .ok e w)/\(∀(op:BinOp) (x y:Operand) (w:World),(eqGuard op t x y a' b').run P w= .ok () w):=by
 have guard:∀(op:BinOp) (x y:Operand) (w:World),(∀xs,a'≠ .agg xs)->(a'= .nilIface->b'≠ .nilIface)->(eqGuard op t x y a' b').run P w= .ok () w:=by
  intro op x y w h1 h2;unfold eqGuard;cases op<;>cases a'<;>cases b'<;>first | rfl | exact bC rfl (h1 _) | exact bC rfl (h2 rfl)
 unfold pN at hk;split at hk
 ·rename_i xs ys
  split at hk
  ·rename_i fs hfs
   obtain⟨h1,h2,h3,h4,h5⟩:=HA hfs;obtain⟨xs',rfl,hx⟩:=ha.MJ;obtain⟨ys',rfl,hy⟩:=hb.MJ;obtain⟨e,he,hr⟩:=Nr fs 0 _ _ xs' ys' k h3 hk (by simpa using hx) (by simpa using hy);refine⟨e,he,fun w=>?_,fun op x y w=>run_eqGuard_agg w op t x y xs' ys' h5⟩;show(Op.equalIn (9999+1) t _ _).run P w=_;rw [run_equalIn_struct w 9999 t xs' ys' h1 h4,h2];exact hr 9998 w
  ·cases hk
 all_goals first
  | cases hk;done
  | (split at hk<;>first
   | cases hk;done
   | (rename_i hu
      rw [pJ]at hk;have ea:=ha.of_flat rfl;have eb:=hb.of_flat rfl;rw [ea,eb]at guard;rw [ea,eb];exact⟨_,hk,fun w=>run_equal_bool w t _ _ hu,fun op x y w=>guard op x y w (by simp) (by simp)⟩)
   | (rename_i hu
      obtain⟨_,ea⟩:=ha.look;obtain⟨_,eb⟩:=hb.look;refine⟨_,hk,fun w=>?_,fun op x y w=>guard op x y w ?_ ?_⟩
      ·show(Op.equalIn (9999+1) t _ _).run P w=_
       rw [ea,eb]
       first
        | exact aSU w 9999 hu _ | exact aSV w 9999 hu _ | exact aSW w 9999 hu | exact aSX w 9999 hu _ _ _ _ _ | exact aSY w 9999 hu _ _ _ _ _ | exact aSZ w 9999 hu _ _ _ _ | exact aS0 w 9999 hu _ | exact aS1 w 9999 hu _
        | exact aS2 w 9999 hu | exact aQP w 9999 hu _ _ _ | exact aQQ w 9999 hu _ _ _ | exact aQR w 9999 hu | exact aQS w 9999 hu _ _ | exact aQT w 9999 hu _ _
      ·intro xs e;rw [ea]at e;cases e
      ·intro e e2;rw [ea]at e;rw [eb]at e2;first | (cases e;done) | (cases e2;done)))
end mem
section mem
variable{P:Program}{w0:World}{U:Rn}{S:St}{w:World}
def BD:Value->Bool
 | .int _ _ | .float _ _ | .complex _ _ _ | .string _=>true
 | _=>false
theorem VR.BD{v v':Value} (h:VR U v v'):BD v'=BD v:=by cases h<;>rfl
theorem Df{t:TypeId}{a b:Value}{k:Bool->Bool} (hk:pN P t a b k=true):BD a=false:=by
 cases a<;>first | rfl | (unfold pN at hk;cases hk)
theorem binOp_eql{t:TypeId}{a b:Value} (h:BD a=false):binOp .eql t a b=(do pure (.bool (<-Op.equal t a b))):=by
 cases a<;>cases b<;>first | rfl | (simp [BD]at h)
theorem binOp_neq{t:TypeId}{a b:Value} (h:BD a=false):binOp .neq t a b=(do pure (.bool (!(<-Op.equal t a b)))):=by
 cases a<;>cases b<;>first | rfl | (simp [BD]at h)
theorem Tw (op:BinOp) (t:TypeId) (x y:Operand){a b:Value} (ha:BD a=true) (w:World):(eqGuard op t x y a b).run P w= .ok () w:=by
 unfold eqGuard;cases op<;>cases a<;>first | (simp [BD]at ha;done) | (cases b<;>rfl)
theorem Mv{op:BinOp}{t:TypeId}{a b a' b':Value}{K:Value->Bool} (hk:Ap P op t a b K=true) (ha:VR U a a') (hb:VR U b b'):
 ∃v,K v=true/\bY v=true/\∀(x y:Operand) (w:World),((do eqGuard op t x y a' b';binOp op t a' b'):Sem Value).run P w= .ok v w:=by
 unfold Ap at hk;split at hk
 ·rename_i k x k' y
  rw [ha.of_flat rfl,hb.of_flat rfl]
  have fin:∀v,K v=true->bY v=true->(∀(P:Program) (t:TypeId) (w:World),(binOp op t (.int k x) (.int k' y)).run P w= .ok v w)->∃v,K v=true/\bY v=true/\∀(x' y':Operand) (w:World),((do eqGuard op t x' y' (.int k x) (.int k' y);binOp op t (.int k x) (.int k' y)):Sem Value).run P w= .ok v w:=
   fun v h1 h2 h3=>⟨v,h1,h2,fun x' y' w=>by rw [cP,Tw op t x' y' rfl];exact h3 P t w⟩
  split at hk
  ·obtain⟨v,h1,h2,h3⟩:=Da (k':=k') hk;exact fin v h1 h2 h3
  ·obtain⟨v,h1,h2,h3⟩:=Da (k':=k') hk;exact fin v h1 h2 h3
  ·split at hk
   ·rename_i hj
    have:=KH hj;subst this;obtain⟨v,h1,h2,_,_,h3⟩:=Ru hk;exact fin v h1 h2 h3
   ·cases hk
 ·rename_i x y
  rw [ha.of_flat rfl,hb.of_flat rfl];obtain⟨v,h1,h2,h3⟩:=Rv hk;exact⟨v,h1,h2,fun x' y' w=>by rw [cP,Tw op t x' y' rfl];exact h3 P t w⟩
 ·split at hk
  ·have hs:=Df hk
   obtain⟨e,he,h1,h2⟩:=QO hk ha hb;rw [rO]at he;exact⟨_,he,rfl,fun x y w=>by rw [cP,h2,eI,binOp_eql (by rw [ha.BD,hs])];simp [h1]⟩
  ·have hs:=Df hk
   obtain⟨e,he,h1,h2⟩:=QO hk ha hb;rw [rO]at he;exact⟨_,he,rfl,fun x y w=>by rw [cP,h2,eI,binOp_neq (by rw [ha.BD,hs])];simp [h1]⟩
  ·cases hk
theorem Tk{op:UnOp}{a a':Value}{K:Value->Bool} (hk:unK op a K=true) (ha:VR U a a'):
 ∃v,K v=true/\bY v=true/\∀(w:World),(Op.unary op a').run P w= .ok v w:=by
 unfold unK at hk;split at hk
 ·rw [Wm]at hk
  rw [ha.of_flat rfl];exact⟨_,hk,rfl,fun w=>rfl⟩
 ·rw [nZ]at hk
  rw [ha.of_flat rfl];exact⟨_,hk,rfl,fun w=>rfl⟩
 ·rw [rO]at hk
  rw [ha.of_flat rfl];exact⟨_,hk,rfl,fun w=>rfl⟩
 ·cases hk
theorem Gq{d:Nat}{x:Option Value}{k:Nat->Bool} (hk:aFp d x k=true):∃n,k n=true/\(x=none/\n=d\/∃kd,x=some (.int kd (.ofNat n))):=by
 unfold aFp at hk;split at hk
 ·exact⟨d,hk,.inl ⟨rfl,rfl⟩⟩
 ·rename_i kd n;exact⟨n,hk,.inr ⟨kd,rfl⟩⟩
 ·cases hk
def Jr (U:Rn) (x x':Option Value):Prop:=(x=none/\x'=none)\/∃v v',x=some v/\x'=some v'/\VR U v v'
theorem Jr.int{x x':Option Value} (h:Jr U x x'){kd:IntKind}{n:Nat} (e:x=some (.int kd (.ofNat n))):x'=some (.int kd (.ofNat n)):=by
 rcases h with ⟨h,_⟩ | ⟨v,v',h1,h2,hr⟩
 ·rw [e]at h;cases h
 ·rw [e]at h1;injection h1 with h1;subst h1
  rw [h2,hr.of_flat rfl]
theorem Jr.none{x x':Option Value} (h:Jr U x x') (e:x=none):x'=none:=by
 rcases h with ⟨_,h⟩ | ⟨v,v',h1,_⟩
 ·exact h
 ·rw [e]at h1;cases h1
theorem GO{len cap:Nat}{lo hi mx Ld Av Bz:Option Value}{k:Nat->Nat->Nat->Bool} (hk:QH len cap lo hi mx k=true)
 (hl:Jr U lo Ld) (hh:Jr U hi Av) (hm:Jr U mx Bz):
 ∃l h m,k l h m=true/\l<=h/\h<=m/\m<=cap/\(mx=none->m=cap)/\∀(Gr:Nat),cap<=Gr->(Bz=none->mx=none)->∀(isSlice:Bool) (w:World),(Bz=none\/Av≠none)->
  (Instr.sliceBounds isSlice len Gr Ld Av Bz).run P w= .ok (l,h,if Bz=none then Gr else m) w:=by
 unfold QH at hk;obtain⟨m,hk,em⟩:=Gq hk;obtain⟨h,hk,eh⟩:=Gq hk;obtain⟨l,hk,el⟩:=Gq hk;split at hk
 ·rename_i h1 h2 h3
  have h1:=cJ h1;have h2:=cJ h2;have h3:=cJ h3;refine⟨l,h,m,hk,h1,h2,h3,fun e=>?_,fun Gr hc hmm isS w hhi=>?_⟩
  ·rcases em with ⟨_,e'⟩ | ⟨kd,e'⟩
   ·exact e'
   ·rw [e]at e';cases e'
  ·have elo:(match Ld with | some v=>Instr.sliceBound v h (if Bz.isSome then .slice3C else .sliceB) | none=>(pure 0:Sem Nat)).run P w= .ok l w:=by
    rcases el with ⟨e,e'⟩ | ⟨kd,e⟩
    ·rw [hl.none e,e'];rfl
    ·rw [hl.int e];simp [Instr.sliceBound,asIntOf,h1]
   rcases em with ⟨e,e'⟩ | ⟨kd,e⟩
   ·have emx:=hm.none e
    subst emx
    have ehi:(match Av with | some v=>Instr.sliceBound v Gr (if isS then .sliceAcap else .sliceAlen) | none=>(pure len:Sem Nat)).run P w= .ok h w:=by
     rcases eh with ⟨e2,e2'⟩ | ⟨kd2,e2⟩
     ·rw [hh.none e2,e2'];rfl
     ·rw [hh.int e2];simp [Instr.sliceBound,asIntOf];omega
    unfold Instr.sliceBounds;cases Av with
    | none=>
     simp at ehi;cases Ld with
     | none=>simp at elo;simp [elo,ehi]
     | some u=>simp at elo;simp [elo,ehi]
    | some v=>
     simp at ehi;cases Ld with
     | none=>simp at elo;simp [elo,ehi]
     | some u=>simp at elo;simp [elo,ehi]
   ·have emx:=hm.int e
    subst emx;have aS4:Av≠none:=by rcases hhi with h | h;cases h;exact h
    rcases eh with ⟨e2,_⟩ | ⟨kd2,e2⟩
    ·exact bC (hh.none e2) aS4
    ·have ehi:=hh.int e2
     subst ehi;simp only [Option.isSome_some,if_true]at elo;have r1:(Instr.sliceBound (.int kd (.ofNat m)) Gr (if isS then .slice3Acap else .slice3Alen)).run P w= .ok m w:=by simp [Instr.sliceBound,asIntOf];omega
     have r2:(Instr.sliceBound (.int kd2 (.ofNat h)) m .slice3B).run P w= .ok h w:=by simp [Instr.sliceBound,asIntOf];omega
     unfold Instr.sliceBounds;cases Ld with
     | none=>
      simp at elo;simp only [cP,r1,eI,r2,kJ];simp [elo]
     | some u=>
      simp only at elo;simp only [cP,r1,eI,r2,kJ,Option.isSome_some,if_true,elo];simp
 ·cases hk
end mem
section mem
variable{P:Program}{w0:World}{U:Rn}{S:St}{w:World}
theorem gJ{t e:TypeId} (h:isSlice P t=some e):P.underlying t=some (.slice e):=by
 unfold isSlice at h;split at h
 ·rename_i hu;injection h with h;subst h;exact hu
 ·cases h
theorem aAS (s:ByteArray) (l h:Nat) (_:h<=s.size):s.extract l h=⟨⟨(s.data.toList.take h).drop l⟩⟩:=by
 apply ByteArray.ext;apply Array.toList_inj.1;simp [ByteArray.data_extract,Array.toList_extract,List.extract_eq_take_drop,List.drop_take]
theorem Cp (h:Rel P w0 U S w){t:TypeId}{x x':Value}{lo hi mx Ld Av Bz:Option Value}{K:Value->Bool} (hk:uR P t x lo hi mx S K=true)
 (hx:VR U x x') (hl:Jr U lo Ld) (hh:Jr U hi Av) (hm:Jr U mx Bz) (hmh:Bz=none\/Av≠none):
 ∃v v',K v=true/\VR U v v'/\∀w,(Instr.sliceAt t x' Ld Av Bz).run P w= .ok v' w:=by
 have hmm:Bz=none->mx=none:=fun e=>by
  rcases hm with ⟨h,_⟩ | ⟨_,_,_,h,_⟩
  ·exact h
  ·rw [e]at h;cases h
 unfold uR at hk;split at hk
 ·
   rename_i s;split at hk
   ·rename_i hu
    rw [hx.of_flat rfl];rw [nY]at hk;obtain⟨l,h',m,hk,h1,h2,h3,h4,fU⟩:=GO (P:=P) hk hl hh (.inl ⟨rfl,rfl⟩);rw [GZ]at hk;have hsz:s.data.toList.length=s.size:=rfl;split at hk
    ·rename_i hle
     rw [DJ]at hk;split at hk
     ·refine⟨_,_,hk,.flat rfl,fun w=>?_⟩
      have e1:=hm.none rfl;subst e1;have:=fU s.data.toList.length (bQ _) (fun _=>rfl) false w (.inl rfl);rw [hsz]at this;simp only [if_true]at this;simp [Instr.sliceAt,run_underlying hu,Instr.slice,this,aAS s l h' (by omega)]
     ·cases hk
    ·cases hk
   ·cases hk
 ·
   rename_i len cap;split at hk
   ·rename_i e he
    have hu:=gJ he;split at hk
    ·rename_i size hsz
     rw [hx.of_flat rfl];obtain⟨l,h',m,xA,h1,h2,h3,h4,fU⟩:=GO (P:=P) hk hl hh hm;simp only [bJ]at xA;refine⟨_,.slice none (h'-l) (m-l),xA,.flat rfl,fun w=>?_⟩;have:=fU cap (bQ _) hmm true w hmh
     have em:(if Bz=none then cap else m)=m:=by
      split
      ·rename_i e2;exact(h4 (hmm e2)).symm
      ·rfl
     rw [em]at this;simp [Instr.sliceAt,run_underlying hu,Instr.slice,this,jE hsz]
    ·cases hk
   ·cases hk
 ·
   rename_i i o sp len cap;split at hk
   ·rename_i e he
    have hu:=gJ he;split at hk
    ·rename_i size hsz
     obtain⟨l,h',m,xA,h1,h2,h3,h4,fU⟩:=GO (P:=P) hk hl hh hm;simp only [bJ]at xA;clear hk
     have go:∀(a:Addr) (Gr:Nat),cap<=Gr->∀w,(Instr.sliceAt t (.slice (some a) len Gr) Ld Av Bz).run P w=
      .ok (.slice (some (if(if Bz=none then Gr else m)=l then a else a.add (l*size))) (h'-l) ((if Bz=none then Gr else m)-l)) w:=by
      intro a Gr hc w;have:=fU Gr hc hmm true w hmh;have e1:∀(q:Nat),(if q=l then some a else some (a.add (l*size)))=some (if q=l then a else a.add (l*size)):=fun q=>by split<;>rfl
      simp [Instr.sliceAt,run_underlying hu,Instr.slice,this,jE hsz,e1]
     cases hx with
     | flat h=>simp [bY]at h
     | @slice _ _ _ _ L hL=>
      have em:(if Bz=none then cap else m)=m:=by
       split
       ·rename_i e2;exact(h4 (hmm e2)).symm
       ·rfl
      have Qy:=go ⟨L.b,L.s+o,none⟩ cap (bQ _);simp only [em]at Qy
      replace xA:(match Nat.beq m l with | true=>K (.slice (some ⟨i,o,none⟩) (h'-l) (m-l)) | false=>K (.slice (some ⟨i,o+l*size,none⟩) (h'-l) (m-l)))=true:=xA
      split at xA
      ·rename_i TU
       have TU:=dH TU;exact⟨_,_,xA,.slice hL,fun w=>by rw [Qy w,aO TU]⟩
      ·rename_i TU
       have TU:m≠l:=fun e=>by subst e;simp at TU
       exact⟨_,_,xA,.slice hL,fun w=>by rw [Qy w,aG TU,rN,uP]⟩
     | @rM _ _ _ _ c' L hL hc hn Rp hmp=>
      have Qy:=go ⟨L.b,L.s+o,none⟩ c' hc;cases mx with
      | some y=>
       have oM:Bz≠none:=fun e=>by have:=hmm e;cases this
       simp only [aG oM]at Qy
       replace xA:(match Nat.beq m l with | true=>K (.slice (some ⟨i,o,none⟩) (h'-l) (m-l)) | false=>K (.slice (some ⟨i,o+l*size,none⟩) (h'-l) (m-l)))=true:=xA
       split at xA
       ·rename_i TU
        have TU:=dH TU;exact⟨_,_,xA,.slice hL,fun w=>by rw [Qy w,aO TU]⟩
       ·rename_i TU
        have TU:m≠l:=fun e=>by subst e;simp at TU
        exact⟨_,_,xA,.slice hL,fun w=>by rw [Qy w,aG TU,rN,uP]⟩
      | none=>
       have he':=hm.none rfl;subst he';simp only [if_true]at Qy;have hm':=h4 rfl;subst hm'
       replace xA:(match Nat.beq m l with | true=>K (.slice (some ⟨i,0,some 1⟩) 0 0) | false=>(DD S i fun _ e ck=>match ck,cM P e with | .exact,_=>false | _,some q=>(match Nat.beq q size with | true=>K (.slice (some ⟨i,o+l*size,some 0⟩) (h'-l) (m-l)) | false=>false) | _,none=>false))=true:=xA
       split at xA
       ·rename_i TU
        have TU:=dH TU;have e0:h'-l=0:=by omega
        refine⟨_,.slice (some (if c'=l then⟨L.b,L.s+o,none⟩else(⟨L.b,L.s+o,none⟩:Addr).add (l*size))) 0 (c'-l),xA,.DH,fun w=>?_⟩;rw [Qy w,e0]
       ·rename_i TU
        have TU:m≠l:=fun e=>by subst e;simp at TU
        obtain⟨vs,e',ck,ho,xA⟩:=HB xA;obtain⟨cs,tt,fz,hb,_,DS⟩:=h.cells ho hL;cases hq:cM P e' with
        | none=>rw [hq]at xA;cases ck<;>cases xA
        | some q=>
         rw [hq]at xA;have oM:ck≠ .exact:=by rintro rfl;cases xA
         have vO:(match Nat.beq q size with | true=>K (.slice (some ⟨i,o+l*size,some 0⟩) (h'-l) (m-l)) | false=>false)=true:=by cases ck<;>first | exact xA | exact bC rfl oM
         split at vO
         ·rename_i hqs
          have hqs:=dH hqs;subst hqs
          have hm:L.m=q:=by
           cases ck with
           | exact=>exact bC rfl oM
           | grown _=>obtain⟨_,_,_,h5,_⟩:=DS;rw [hq]at h5;injection h5 with h5;exact h5.symm
           | uD=>obtain⟨_,h5,_⟩:=DS;rw [hq]at h5;injection h5 with h5;exact h5.symm
           | ro=>have h5:cM P e'=some L.m:=DS;rw [hq]at h5;injection h5 with h5;exact h5.symm
           | rs=>have h5:=DS.1;rw [hq]at h5;injection h5 with h5;exact h5.symm
          refine⟨_,.slice (some ⟨L.b,L.s+(o+l*q),none⟩) (h'-l) (c'-l),vO,(.rM hL (by omega) (by omega) ?_ hmp),fun w=>by rw [Qy w,aG (by omega),rN,uP]⟩;rw [hm]at Rp ⊢;have:l*q+(c'-l)*q=c'*q:=by rw [<-KC];congr 1;omega
          omega
         ·cases vO
     | @DH _ c' a=>
      have e0:l=0/\h'=0/\m=0:=by omega
      obtain⟨rfl,rfl,rfl⟩:=e0;have Qy:=go a c' (zT _)
      replace xA:K (.slice (some ⟨i,0,some 1⟩) 0 0)=true:=xA
      refine⟨_,.slice (some a) 0 ((if Bz=none then c' else 0)-0),xA,.DH,fun w=>?_⟩;rw [Qy w];simp [Addr.add]
     | @DI _ _ s sp2 uA=>
      have e0:l=0/\h'=0/\m=0:=by omega
      obtain⟨rfl,rfl,rfl⟩:=e0;have Qy:=go ⟨i,o,sp2⟩ 0 (zT _)
      replace xA:K (.slice (some ⟨i,0,some 1⟩) 0 0)=true:=xA
      refine⟨_,.slice (some ⟨i,o,sp2⟩) 0 ((if Bz=none then 0 else 0)-0),xA,.DH,fun w=>?_⟩;rw [Qy w];simp []
    ·cases hk
   ·cases hk
 ·
   rename_i i o;split at hk
   ·rename_i n e hu
    split at hk
    ·rename_i size hsz
     obtain⟨l,h',m,xA,h1,h2,h3,h4,fU⟩:=GO (P:=P) hk hl hh hm;simp only [bJ]at xA;clear hk
     have em:(if Bz=none then n else m)=m:=by
      split
      ·rename_i e2;exact(h4 (hmm e2)).symm
      ·rfl
     cases hx with
     | flat h=>simp [bY]at h
     | @ptr _ _ L hL=>
      have Qy:∀w,(Instr.sliceAt t (.pointer (some ⟨L.b,L.s+o,none⟩)) Ld Av Bz).run P w= .ok (.slice (some (if m=l then⟨L.b,L.s+o,none⟩else(⟨L.b,L.s+o,none⟩:Addr).add (l*size))) (h'-l) (m-l)) w:=by
       intro w;have:=fU n (bQ _) hmm false w hmh;rw [em]at this;simp [Instr.sliceAt,run_underlying hu,Instr.sureAddr,this,jE hsz]
      split at xA
      ·rename_i TU
       have TU:=dH TU;exact⟨_,_,xA,.slice hL,fun w=>by rw [Qy w,aO TU]⟩
      ·rename_i TU
       have TU:m≠l:=fun e=>by subst e;simp at TU
       exact⟨_,_,xA,.slice hL,fun w=>by rw [Qy w,aG TU,rN,uP]⟩
    ·cases hk
   ·cases hk
 ·cases hk
end mem
section mem
variable{P:Program}{w0:World}{U:Rn}{S:St}{w:World}
theorem VR.mV{i o:Nat}{sp:Option Nat}{n c:Nat}{v':Value} (h:VR U (.slice (some ⟨i,o,sp⟩) n c) v'):
 (∃L c',U i=some L/\v'= .slice (some ⟨L.b,L.s+o,none⟩) n c'/\((sp=none/\c'=c)\/(sp=some 0/\c<=c'/\n<=c/\L.s+o+c'*L.m=L.e/\0<L.m)))\/((∃s,sp=some (s+1))/\n=0/\c=0/\∃a c',v'= .slice (some a) 0 c'):=by
 cases h with
 | flat h=>simp [bY]at h
 | slice hL=>exact .inl ⟨_,_,hL,rfl,.inl ⟨rfl,rfl⟩⟩
 | rM hL hc hn he hm=>exact .inl ⟨_,_,hL,rfl,.inr ⟨rfl,hc,hn,he,hm⟩⟩
 | DH=>exact .inr ⟨⟨_,rfl⟩,rfl,rfl,_,_,rfl⟩
 | DI _=>exact .inr ⟨⟨_,rfl⟩,rfl,rfl,_,_,rfl⟩
theorem VR.JJ{i o:Nat}{sp:Option Nat}{v':Value} (h:VR U (.pointer (some ⟨i,o,sp⟩)) v'):sp=none/\∃L,U i=some L/\v'= .pointer (some ⟨L.b,L.s+o,none⟩):=by
 cases h with
 | flat h=>simp [bY]at h
 | ptr hL=>exact⟨rfl,_,hL,rfl⟩
theorem OK{t:TypeId}{x x' ix ix':Value}{K:Value->Bool} (hk:FG P t x ix K=true) (hx:VR U x x') (hi:VR U ix ix'):
 ∃v v',K v=true/\VR U v v'/\∀w,(Instr.indexAt t x' ix').run P w= .ok v' w:=by
 unfold FG at hk;split at hk
 ·rename_i kd j
  rw [hi.of_flat rfl];split at hk
  ·rename_i b o sp len c
   rcases hx.mV with ⟨L,c',hL,rfl,BA⟩ | ⟨⟨_,rfl⟩,_⟩
   ·have vO:(match isSlice P t with
     | some elem=>(match cM P elem,Nat.blt j len with
      | some size,true=>bX (o+j*size) fun o=>K (.pointer (some ⟨b,o,none⟩))
      | _,_=>false)
     | none=>false)=true:=by
     rcases BA with ⟨rfl,_⟩ | ⟨rfl,_⟩<;>exact hk
    split at vO
    ·rename_i e he
     have hu:=gJ he;split at vO
     ·rename_i size hsz hj
      have hj:j<len:=cJ hj;rw [bJ]at vO;refine⟨_,_,vO,.ptr hL,fun w=>?_⟩;simp [Instr.indexAt,asIntOf,run_underlying hu,hj,jE hsz,rN,uP]
     ·cases vO
    ·cases vO
   ·cases hk
  ·rename_i b o
   obtain⟨_,L,hL,rfl⟩:=hx.JJ;split at hk
   ·rename_i len e hu
    split at hk
    ·rename_i size hsz hj
     have hj:j<len:=cJ hj;rw [bJ]at hk;refine⟨_,_,hk,.ptr hL,fun w=>?_⟩;simp [Instr.indexAt,asIntOf,run_underlying hu,Instr.sureAddr,hj,jE hsz,rN,uP]
    ·cases hk
   ·cases hk
  ·cases hk
 ·cases hk
theorem Cf{s:TypeId}{f:Nat}{fd:Field} (h:DF P s f=some fd):∃fs,P.underlying s=some (.struct fs)/\fs[f]? =some fd:=by
 unfold DF at h;split at h
 ·rename_i fs hu;exact⟨fs,hu,h⟩
 ·cases h
theorem OL{s:TypeId}{x x':Value}{f:Nat}{K:Value->Bool} (hk:FH P s x f K=true) (hx:VR U x x'):
 ∃v v',K v=true/\VR U v v'/\∀w,(Instr.fieldAt s x' f).run P w= .ok v' w:=by
 unfold FH at hk;split at hk
 ·rename_i b o
  obtain⟨_,L,hL,rfl⟩:=hx.JJ;split at hk
  ·rename_i fd hf
   obtain⟨fs,hu,hfs⟩:=Cf hf;split at hk
   ·rename_i q hsz
    rw [bJ]at hk;refine⟨_,_,hk,.ptr hL,fun w=>?_⟩;simp [Instr.fieldAt,run_underlying hu,hfs,Instr.sureAddr,fieldPlace,jE hsz,rN,uP]
   ·cases hk
  ·cases hk
 ·cases hk
theorem Hz{t:TypeId}{cs:List Value}{cs':Array Value}{off:Nat}{K:Value->Bool} (hk:Ta P t cs off K=true) (wK:lR U cs cs'.toList):
 ∃v v',K v=true/\VR U v v'/\∀w,(part t cs' off).run P w= .ok v' w:=by
 unfold Ta at hk;split at hk
 ·rename_i aCe
  obtain⟨v,hv,hk⟩:=OM hk;obtain⟨v',ON,hr⟩:=wK.get hv;rw [Lu]at ON;exact⟨v,v',hk,hr,fun w=>by simp [part,KF aCe,ON]⟩
 ·rename_i aCe
  split at hk
  ·rename_i n hsz
   rw [DJ]at hk;split at hk
   ·rw [GZ]at hk
    split at hk
    ·rename_i h1 h2
     refine⟨_,.agg ⟨(cs'.toList.drop off).take n⟩,hk,.Vn ((wK.drop off).take n),fun w=>?_⟩
     have:cs'.extract off (off+n)=⟨(cs'.toList.drop off).take n⟩:=by
      apply Array.toList_inj.1;simp [Array.toList_extract,List.extract_eq_take_drop]
     simp [part,KF aCe,jE hsz,this]
    ·cases hk
   ·cases hk
  ·cases hk
 ·cases hk
theorem Cg{t:TypeId}{x x':Value}{f:Nat}{K:Value->Bool} (hk:UK P t x f K=true) (hx:VR U x x'):
 ∃v v',K v=true/\VR U v v'/\∀w,(Instr.field t x' f).run P w= .ok v' w:=by
 unfold UK at hk;split at hk
 ·rename_i cs
  obtain⟨cs',rfl,wK⟩:=hx.MJ;split at hk
  ·rename_i fd hf
   obtain⟨fs,hu,hfs⟩:=Cf hf;obtain⟨v,v',h1,h2,h3⟩:=Hz hk wK;exact⟨v,v',h1,h2,fun w=>by simp [Instr.field,run_underlying hu,hfs,asAgg,h3]⟩
  ·cases hk
 ·cases hk
theorem Ch{t:TypeId}{x x' ix ix':Value}{K:Value->Bool} (hk:Ge P t x ix K=true) (hx:VR U x x') (hi:VR U ix ix'):
 ∃v v',K v=true/\VR U v v'/\∀w,(Instr.index t x' ix').run P w= .ok v' w:=by
 unfold Ge at hk;split at hk
 ·rename_i kd j
  rw [hi.of_flat rfl];split at hk
  ·rename_i cs
   obtain⟨cs',rfl,wK⟩:=hx.MJ;split at hk
   ·rename_i len e hu
    split at hk
    ·rename_i size hsz hj
     have hj:j<len:=cJ hj;obtain⟨v,v',h1,h2,h3⟩:=Hz hk wK;exact⟨v,v',h1,h2,fun w=>by simp [Instr.index,asIntOf,run_underlying hu,hj,jE hsz,h3]⟩
    ·cases hk
   ·cases hk
  ·rename_i s
   rw [hx.of_flat rfl];split at hk
   ·rename_i hu
    obtain⟨b,hb,hk⟩:=OM hk;rw [bJ]at hk;refine⟨_,_,hk,.flat rfl,fun w=>?_⟩
    have SD:s[j]? =some b:=by
     rw [Lu]at hb;obtain⟨h1,h2⟩:=Array.getElem?_eq_some_iff.1 hb;have h3:j<s.size:=h1;rw [getElem?_pos s j h3]
     congr 1
    simp [Instr.index,asIntOf,run_underlying hu,SD]
   ·cases hk
  ·cases hk
 ·cases hk
theorem Vo (l:List Value):∀(off n:Nat) (cs:Array Value),off+n+l.length<=cs.size->
 ((l.zipIdx n).foldl (fun cs (x:Value×Nat)=>cs.setIfInBounds (off+x.2) x.1) cs).toList=bA (off+n) l cs.toList:=by
 induction l with
 | nil=>intro off n cs _;simp [bA]
 | cons v l ih=>
  intro off n cs h;simp only [List.zipIdx_cons,Ly];rw [ih off (n+1) _ (by simp at h ⊢;omega)];apply xM;intro j;have hl:cs.toList.length=cs.size:=rfl;rw [sF _ _ _ (by simp at h ⊢;omega),sF _ _ _ (by simp at h ⊢;omega)];simp only [ZU,oX];by_cases h2:j=off+n
  ·subst h2
   rw [aG (by omega),aO (by omega),Nat.sub_self];have:off+n<cs.size:=by simp at h;omega
   simp [this]
  ·by_cases h3:off+(n+1)<=j/\j<off+(n+1)+l.length
   ·rw [aO h3,aO (by omega)]
    obtain⟨q,rfl⟩:∃q,j=off+n+(q+1):=⟨j-(off+n+1),by omega⟩;rw [show off+n+(q+1)-(off+(n+1))=q by omega,show off+n+(q+1)-(off+n)=q+1 by omega];simp
   ·rw [aG h3,aG (by omega),HX (by omega)]
def Me (U:Rn) (l l':List (Nat×Value)):Prop:=l.length=l'.length/\∀(k:Nat) (p p':Nat×Value),l[k]? =some p->l'[k]? =some p'->p.1=p'.1/\VR U p.2 p'.2
theorem Me.dN{p:Nat×Value}{l l':List (Nat×Value)} (h:Me U (p::l) l'):∃p' t',l'=p'::t'/\p.1=p'.1/\VR U p.2 p'.2/\Me U l t':=by
 cases l' with
 | nil=>have:=h.1;simp at this
 | cons p' t'=>
  obtain⟨h1,h2⟩:=h.2 0 p p' rfl rfl;exact⟨p',t',rfl,h1,h2,by simpa using h.1,fun k q q' a b=>h.2 (k+1) q q' (by simpa using a) (by simpa using b)⟩
theorem MK{place place':Nat->Option (Nat×Nat)} (xJ:∀i q,place i=some q->place' i=some q):∀{parts parts':List (Nat×Value)} {cells:List Value} {cells':Array Value} {k:List Value->Bool},
 YP place parts cells k=true->Me U parts parts'->lR U cells cells'.toList->∃out Rf,k out=true/\Instr.fill place' cells' parts'=some Rf/\lR U out Rf.toList/\out.length=cells.length:=by
 intro parts;induction parts with
 | nil=>
  intro parts' cells cells' k hk hp hc;have:parts'=[]:=sB hp.1.symm;subst this;exact⟨cells,cells',hk,rfl,hc,rfl⟩
 | cons p parts ih=>
  intro parts' cells cells' k hk hp hc;obtain⟨p',t',rfl,h1,h2,ht⟩:=hp.dN
  have xA:(match place p.1 with
   | some (off,size)=>pM p.2 fun new=>KD new fun m=>match Nat.beq m size with
    | true=>sW off new cells fun cs=>YP place parts cs k
    | false=>false
   | none=>false)=true:=hk
  split at xA
  ·rename_i off size hq
   obtain⟨new,xA,QK,Vp,_⟩:=GI xA h2;rw [nY]at xA;split at xA
   ·rename_i hm
    have hm:=dH hm;rw [BJ]at xA;split at xA
    ·rename_i hlen
     have hsz:p'.2.cells.size=size:=by rw [<-hm,Vp.1];rfl
     have Bx:cells.length=cells'.size:=hc.1;have Vq:new.length=p'.2.cells.size:=Vp.1
     have e1:(p'.2.cells.zipIdx.foldl (fun cs (x:Value×Nat)=>cs.setIfInBounds (off+x.2) x.1) cells').toList=bA off p'.2.cells.toList cells'.toList:=by
      rw [<-Array.foldl_toList,Array.toList_zipIdx];exact Vo p'.2.cells.toList off 0 cells' (by have:p'.2.cells.toList.length=p'.2.cells.size:=rfl;omega)
     obtain⟨out,Rf,g1,g2,g3,g4⟩:=ih (cells':=p'.2.cells.zipIdx.foldl (fun cs (x:Value×Nat)=>cs.setIfInBounds (off+x.2) x.1) cells') xA ht (by rw [e1];exact hc.bA Vp off);refine⟨out,Rf,g1,?_,g3,by rw [g4,GJ _ _ _ hlen]⟩;obtain⟨i',v'⟩:=p';simp only at h1;simp only [Instr.fill,<-h1,xJ _ _ hq];have c1:(v'.cells.size != size)=false:=by simp;exact hsz
     have c2:¬off+v'.cells.size>cells'.size:=by
      have:v'.cells.size=new.length:=by rw [Vq]
      omega
     rw [aG (by simp;have:v'.cells.size=new.length:=by rw [Vq]
                omega)]
     exact g2
    ·cases xA
   ·cases xA
  ·cases xA
end mem
section mem
variable{P:Program}{w0:World}{U:Rn}{S:St}{w:World}
theorem JK (h:Rel P w0 U S w){A:bD}{a:Act} (hA:BK P U A a):∀{parts:List (Nat×Operand)} {k:List (Nat×Value)->Bool},IB A parts k=true->
 ∃ps,k ps=true/\Me U ps (parts.map fun p=>(p.1,a.eval p.2)):=by
 intro parts;induction parts with
 | nil=>intro k hk;exact⟨[],hk,rfl,by simp⟩
 | cons p parts ih=>
  intro k hk;obtain⟨v,hv,hr⟩:=aX h hA (show vP A p.2 (fun v=>IB A parts fun l=>k ((p.1,v)::l))=true from hk);obtain⟨ps,UN,hrs⟩:=ih hv;refine⟨(p.1,v)::ps,UN,by simp [hrs.1],fun j q q' x y=>?_⟩;cases j with
  | zero=>simp at x y;subst x y;exact⟨rfl,hr⟩
  | succ j=>simp at x;exact hrs.2 j q q' x (by simpa using y)
theorem Vr:∀(fs:List Field) (pl:List (Nat×Nat)),placesOf P fs=some pl->∀w,(fs.mapM (fun f=>(do pure (f.offset,<-sizeOf f.type):Sem (Nat×Nat)))).run P w= .ok pl w:=by
 intro fs;induction fs with
 | nil=>intro pl h w;simp [placesOf]at h;subst h;rfl
 | cons f fs ih=>
  intro pl h w;simp only [placesOf,Ga]at h;cases hs:cM P f.type with
  | none=>simp [hs]at h
  | some s=>
   cases hp:fs.mapM (fun f=>(cM P f.type).map fun s=>(f.offset,s))with
   | none=>simp [hs,hp]at h
   | some pl'=>
    simp [hs,hp]at h;subst h;have:=ih pl' hp w;simp only [Ga,cP,jE hs,eI,kJ,this]
theorem Ci (h:Rel P w0 U S w){A:bD}{a:Act} (hA:BK P U A a){t:TypeId}{parts:Array (Nat×Operand)}{K:Value->Bool} (hk:Md P A t parts.toList K=true):
 ∃v v',K v=true/\VR U v v'/\∀w,(Instr.build t (parts.map fun p=>(p.1,a.eval p.2))).run P w= .ok v' w:=by
 unfold Md at hk;split at hk
 ·rename_i zero fields hz hu
  split at hk
  ·rename_i pl xJ
   split at hk
   ·rename_i Ia
    obtain⟨ps,hk,UN⟩:=JK h hA hk;have Te:lR U zero zero:= .flat (by rw [nD]at Ia;exact List.all_eq_true.1 Ia);obtain⟨out,Rf,g1,g2,g3,_⟩:=MK (place':=(pl.toArray[·]?)) (cells':=⟨zero⟩) (by intro i q hq;simpa using hq) hk UN Te;refine⟨_,.agg Rf,g1,.Vn g3,fun w=>?_⟩;obtain⟨zv,Gi,Qv⟩:=FJ hz w;have ez:zv.cells=⟨zero⟩:=Array.toList_inj.1 Qv;have hpr:=Vr fields.toList pl xJ w
    have aSz:(fields.mapM (fun f=>(do pure (f.offset,<-sizeOf f.type):Sem (Nat×Nat)))).run P w= .ok pl.toArray w:=by
     rw [Array.mapM_eq_mapM_toList,Sem.run_map,hpr];rfl
    simp only [Instr.build,cP,Gi,eI,run_underlying hu,aSz,ez];have e2:(parts.map fun p=>(p.1,a.eval p.2)).toList=parts.toList.map fun p=>(p.1,a.eval p.2):=by simp
    rw [e2,g2];rfl
   ·cases hk
  ·cases hk
 ·rename_i zero n elem hz hu
  split at hk
  ·rename_i size hsz
   split at hk
   ·rename_i Ia
    obtain⟨ps,hk,UN⟩:=JK h hA hk;have Te:lR U zero zero:= .flat (by rw [nD]at Ia;exact List.all_eq_true.1 Ia);obtain⟨out,Rf,g1,g2,g3,_⟩:=MK (place':=fun i=>some (i*size,size)) (cells':=⟨zero⟩) (by intro i q hq;exact hq) hk UN Te;refine⟨_,.agg Rf,g1,.Vn g3,fun w=>?_⟩;obtain⟨zv,Gi,Qv⟩:=FJ hz w;have ez:zv.cells=⟨zero⟩:=Array.toList_inj.1 Qv;have e2:(parts.map fun p=>(p.1,a.eval p.2)).toList=parts.toList.map fun p=>(p.1,a.eval p.2):=by simp
    simp only [Instr.build,cP,Gi,eI,run_underlying hu,jE hsz,ez];rw [e2,g2];rfl
   ·cases hk
  ·cases hk
 ·cases hk
theorem Rel.XF (h:Rel P w0 U S w){cs cs':List Value} (wK:lR U cs cs') (t:TypeId){K:Nat->St->Bool} (hk:zU S (.cells cs t .exact) K=true):
 ∃U' S' w',K S.n S'=true/\w'=w.alloc (.cells ⟨cs'⟩ t)/\Rel P w0 U' S' w'/\xV U w U' w'/\∃L,U' S.n=some L/\L.b=w.heap.size/\L.s=0:=by
 rw [jF]at hk;obtain⟨h1,h2⟩:=h.aG4 wK t 0;exact⟨_,_,_,hk,rfl,h1,h2,_,Rn.mQ _ _ _,rfl,rfl⟩
theorem Rel.aKV (h:Rel P w0 U S w) (ob:Obj){K:Nat->St->Bool} (hk:zU S .dead K=true):
 ∃U' S' w',K S.n S'=true/\w'=w.alloc ob/\Rel P w0 U' S' w'/\xV U w U' w'/\∃L,U' S.n=some L/\L.b=w.heap.size/\L.s=0:=by
 rw [jF]at hk;obtain⟨h1,h2⟩:=h.new .dead ob ⟨w.heap.size,0,0,0⟩ rfl (fun _ _ _=>trivial) (fun _ hi=>nomatch hi);exact⟨_,_,_,hk,rfl,h1,h2,_,Rn.mQ _ _ _,rfl,rfl⟩
theorem VR.aNN{i:Nat}{L:Loc} (h:U i=some L){b:Nat} (hb:L.b=b) (hs:L.s=0):VR U (.pointer (some ⟨i,0,none⟩)) (.pointer (some ⟨b,0,none⟩)):=by
 have:=VR.ptr (o:=0) h;rw [hb,hs]at this;exact this
theorem VR.Mf{i:Nat}{L:Loc} (h:U i=some L){b:Nat} (hb:L.b=b) (hs:L.s=0) (n c:Nat):VR U (.slice (some ⟨i,0,none⟩) n c) (.slice (some ⟨b,0,none⟩) n c):=by
 have:=VR.slice (o:=0) (n:=n) (c:=c) h;rw [hb,hs]at this;exact this
theorem aCf (h:Rel P w0 U S w){t:TypeId}{x x':Value}{K:VK} (hk:aAc t x S K=true) (hx:VR U x x'):
 ∃U' v S' v' w',K v S'=true/\(Instr.box t x').run P w= .ok v' w'/\VR U' v v'/\Rel P w0 U' S' w'/\xV U w U' w':=by
 unfold aAc at hk;obtain⟨cs,hk,_,wK,_⟩:=GI hk hx;obtain⟨U',S',w',hk,hw,h1,h2,L,hL,hb,hs⟩:=h.XF wK t hk;exact⟨U',_,S',_,w',hk,by subst hw;simp [Instr.box,newVar,newRow],.aNN hL hb hs,h1,h2⟩
theorem Vs (h:Rel P w0 U S w){t:TypeId}{K:VK} (hk:UL P t S K=true):
 ∃U' v S' v' w',K v S'=true/\(Instr.alloc t true (.tuple #[])).run P w= .ok v' w'/\VR U' v v'/\Rel P w0 U' S' w'/\xV U w U' w':=by
 unfold UL at hk;split at hk
 ·rename_i zero hz
  split at hk
  ·rename_i Ia
   rw [aDY]at hk;have Te:lR U zero zero:= .flat (by rw [nD]at Ia;exact List.all_eq_true.1 Ia);obtain⟨U',S',w',hk,hw,h1,h2,L,hL,hb,hs⟩:=h.XF Te t hk;obtain⟨zv,Gi,Qv⟩:=FJ hz w;have ez:zv.cells=⟨zero⟩:=Array.toList_inj.1 Qv;exact⟨U',_,S',_,w',hk,by subst hw;simp [Instr.alloc,Gi,newVar,newRow,ez],.aNN hL hb hs,h1,h2⟩
  ·cases hk
 ·cases hk
theorem Mg{t:TypeId}{z:List Value} (h:wY P t=some z){i:TypeInfo} (hi:P.info? t=some i):∃v,i.zero=some v/\v.cells.toList=z:=by
 unfold wY at h;rw [hi]at h;cases hz:i.zero with
 | none=>simp [hz]at h
 | some v=>simp [hz]at h;exact⟨v,rfl,h⟩
theorem OO (zero:List Value) (z:Array Value) (hz:z.toList=zero) (n:Nat) (h0:zero≠[]):(Array.range (n*zero.length)).map (fun i=>z[i%z.size]!)=⟨(List.replicate n zero).flatten⟩:=by
 apply Array.toList_inj.1;have hsz:z.size=zero.length:=by rw [<-hz];rfl
 have IE:0<zero.length:=List.length_pos_iff.2 h0;apply xM;intro j;simp only [Array.toList_map,Array.toList_range,hsz];have hlen:(List.replicate n zero).flatten.length=n*zero.length:=by simp
 by_cases hj:j<n*zero.length
 ·rw [eH,ZX hj]
  have hm:j%zero.length<zero.length:=jD _ IE
  have e1:z[j%zero.length]! =zero[j%zero.length]:=by
   rw [getElem!_pos z _ (by omega)];subst hz;rfl
  have e2:∀n j,j<n*zero.length->(List.replicate n zero).flatten[j]? =some (zero[j%zero.length]'(jD _ IE)):=by
   intro n;induction n with
   | zero=>intro j hj;simp at hj
   | succ n ih=>
    intro j hj;simp only [HY,NQ];by_cases h1:j<zero.length
    ·rw [gO h1,aT h1]
     congr 1;simp [UE h1]
    ·rw [kH (by omega),ih (j-zero.length) (by rw [Ai]at hj;omega)]
     congr 1
     simp only [Nat.mod_eq_sub_mod (show j>=zero.length by omega)]
  rw [e2 n j hj];simp [e1]
 ·rw [FC (by simp;omega),FC (by rw [hlen];omega)]
theorem Gj (h:Rel P w0 U S w){t:TypeId}{l l' c c':Value}{K:VK} (hk:xR P t l c S K=true) (hl:VR U l l') (hc:VR U c c'):
 ∃U' v S' v' w',K v S'=true/\(Instr.makeSlice t l' c').run P w= .ok v' w'/\VR U' v v'/\Rel P w0 U' S' w'/\xV U w U' w':=by
 unfold xR at hk;split at hk
 ·rename_i k1 l k2 c
  rw [hl.of_flat rfl,hc.of_flat rfl];split at hk
  ·rename_i elem he
   have hu:=gJ he;split at hk
   ·rename_i info zero hi hz
    split at hk
    ·rename_i q h1 h2 h3 h4 h5
     have h1:=cJ h1;have h2:=cJ h2;have h3:=cJ h3;have h4:=dH h4;split at hk
     ·rename_i Ia
      obtain⟨zv,hzi,Qv⟩:=Mg hz hi;have oM:zero≠[]:=by intro e;rw [e]at h4;simp at h4;omega
      have Vt:=OO zero zv.cells Qv c oM
      have h2':(info.bytes:Int)*(c:Int)<=1099511627776:=by
       have:((info.bytes*c:Nat):Int)<=1099511627776:=by omega
       rwa [Int.natCast_mul]at this
      have hr:=run_make (P:=P) w t elem info zv hu hi hzi k1 k2 l c (by omega) (by omega) (by omega) (by omega);simp only [Int.toNat_natCast]at hr;have hm:madeCells zv.cells (c*info.size)=⟨(List.replicate c zero).flatten⟩:=by rw [<-Vt,h4];rfl
      split at hk
      ·rw [GK]at hk
       have Te:lR U zero zero:= .flat (by rw [nD]at Ia;exact List.all_eq_true.1 Ia);obtain⟨U',S',w',hk,hw,g1,g2,L,hL,hb,hs⟩:=h.XF (Te.flatten c) elem hk;refine⟨U',_,S',_,w',hk,hr.trans ?_,.Mf hL hb hs l c,g1,g2⟩;rw [hw,hm]
      ·obtain⟨U',S',w',hk,hw,g1,g2,L,hL,hb,hs⟩:=h.aKV (.cells ⟨(List.replicate c zero).flatten⟩ elem) hk
       refine⟨U',_,S',_,w',hk,hr.trans ?_,.Mf hL hb hs l c,g1,g2⟩;rw [hw,hm]
     ·cases hk
    ·cases hk
   ·cases hk
  ·cases hk
 ·cases hk
end mem
section mem
variable{P:Program}{w0:World}{U:Rn}{S:St}{w:World}
theorem Cj (h:Rel P w0 U S w){A:bD}{a:Act} (hA:BK P U A a){t:TypeId}{len:Nat}{parts:Array (Nat×Operand)}{K:VK} (hk:BY P A t len parts.toList S K=true):
 ∃U' v S' v' w',K v S'=true/\(Instr.buildSlice t len (parts.map fun p=>(p.1,a.eval p.2))).run P w= .ok v' w'/\VR U' v v'/\Rel P w0 U' S' w'/\xV U w U' w':=by
 unfold BY at hk;split at hk
 ·rename_i elem he
  have hu:=gJ he;split at hk
  ·rename_i size zero hsz hz
   split at hk
   ·rename_i h1 h2
    have h1:=cJ h1;have h2:=dH h2;split at hk
    ·rename_i Ia
     have Te:lR U zero zero:= .flat (by rw [nD]at Ia;exact List.all_eq_true.1 Ia);rw [GK]at hk;obtain⟨ps,hk,UN⟩:=JK h hA hk;obtain⟨out,Rf,g1,g2,g3,_⟩:=MK (place':=fun i=>some (i*(size+1),size+1)) (cells':=⟨(List.replicate len zero).flatten⟩) (by intro i q hq;exact hq) hk UN (Te.flatten len);obtain⟨U',S',w',hk,hw,r1,r2,L,hL,hb,hs⟩:=h.XF g3 elem g1;refine⟨U',_,S',_,w',hk,?_,.Mf hL hb hs len len,r1,r2⟩;obtain⟨zv,Gi,Qv⟩:=FJ hz w;have oM:zero≠[]:=by intro e;rw [e]at h2;simp at h2
     have e2:(parts.map fun p=>(p.1,a.eval p.2)).toList=parts.toList.map fun p=>(p.1,a.eval p.2):=by simp
     have hc:¬len*(size+1)>2 ^ 24:=by omega
     rw [hw];by_cases h0:len*(size+1)=0
     ·have hl0:len=0:=by
       rcases Nat.mul_eq_zero.1 h0 with h0 | h0
       ·exact h0
       ·omega
      subst hl0;have e3:(⟨(List.replicate 0 zero).flatten⟩:Array Value)= #[]:=by simp
      rw [e3]at g2;have e4:∀f:Nat->Value,(Array.range 0).map f= #[]:=fun f=>by simp
      simp only [Instr.buildSlice,cP,run_underlying hu,eI,jE hsz,Af,e4,e2,g2,newRow];rfl
     ·have Vt:=OO zero zv.cells Qv len oM
      rw [h2]at Vt;simp only [Instr.buildSlice,cP,run_underlying hu,eI,jE hsz,aG hc,aG h0,Gi,kJ,Vt,e2,g2,newRow];rfl
    ·cases hk
   ·cases hk
  ·cases hk
 ·cases hk
end mem
section conv
variable{P:Program}{w0:World}{U:Rn}{S:St}{w:World}
theorem Vu (l:List UInt8) (k:List Value->Bool):aG2 l k=k (l.map fun b=> .int .u8 (b.toNat:Int)):=by
 induction l generalizing k with
 | nil=>rfl
 | cons b l ih=>
  show bX b.toNat (fun n=>aG2 l fun t=>k (.int .u8 (.ofNat n)::t))=_;rw [bJ,ih];rfl
theorem Ib:∀{l:List Value} {k:List UInt8->Bool},aCd l k=true->∃ns:List Nat,k (ns.map UInt8.ofNat)=true/\l=ns.map (fun n=> .int .u8 (.ofNat n)):=by
 intro l;induction l with
 | nil=>intro k hk;exact⟨[],hk,rfl⟩
 | cons v l ih=>
  intro k hk;unfold aCd at hk;rw [bV]at hk;split at hk
  ·rename_i n
   obtain⟨ns,h1,h2⟩:=ih (k:=fun t=>k (UInt8.ofNat n::t)) hk;exact⟨n::ns,h1,by rw [h2];rfl⟩
  ·cases hk
theorem lR.aDZ{l l':List Value} (h:lR U l l') (hf:∀v∈l,bY v=true):l'=l:=by
 apply xM;intro k;cases hk:l[k]? with
 | none=>exact h.get_none hk
 | some x=>
  obtain⟨x',Kx,hr⟩:=h.get hk;rw [Kx,hr.of_flat (hf x (CY hk))]
theorem aAf (h:Rel P w0 U S w){src dst:TypeId}{x x':Value}{K:VK} (hk:Hx P src dst x S K=true) (hx:VR U x x'):
 ∃U' v S' v' w',K v S'=true/\(convert src dst x').run P w= .ok v' w'/\VR U' v v'/\Rel P w0 U' S' w'/\xV U w U' w':=by
 unfold Hx at hk;split at hk
 ·rename_i kd n
  cases hx.of_flat rfl;split at hk
  ·rename_i d k hs hd
   unfold NT at hk;rw [nZ,KG]at hk;refine⟨U,_,S,_,w,hk,?_,.flat rfl,h,.refl U w⟩;simp [convert,run_underlying hs,run_underlying hd,Conv.intToInt]
  ·cases hk
 ·rename_i s
  cases hx.of_flat rfl;split at hk
  ·rename_i hs hd
   refine⟨U,_,S,_,w,hk,?_,.flat rfl,h,.refl U w⟩;simp [convert,run_underlying hs,run_underlying hd]
  ·rename_i e hs hd
   split at hk
   ·rename_i he h1
    rw [Vu,nY,jF]at hk;have aCg:=grownCap_ge w s.size 0 e;generalize hcc:grownCap w s.size 0 e=cc at aCg
    let bs:List Value:=s.data.toList.map (fun b:UInt8=>Value.int .u8 (b.toNat:Int))
    let zs:List Value:=List.replicate (cc-s.size) (.int .u8 0)
    have Zw:bs.length=s.size:=by show(List.map _ _).length=_;rw [mE];rfl
    have Ky:zs.length=cc-s.size:=JZ;have aG5:bytesRow s cc=⟨bs++zs⟩:=by apply Array.toList_inj.1;simp [bytesRow,bs,zs]
    have hsz:(bytesRow s cc).size=cc:=by rw [aG5];show(bs++zs).length=_;rw [kI];omega
    have QL:lR U bs bs:= .flat (by simp [bs,bY]);obtain⟨r1,r2⟩:=h.drew.aAg (more:=zs) QL e h1 ((bytesRow s cc).size,(bytesRow s cc).size+1) (by intro x hx;rw [kI]at hx;omega) [] (by simp);have fU:=run_bytes_of_string w src dst e s hs hd he;rw [hcc,aG5]at fU;rw [aG5]at r1 r2;refine⟨_,_,_,_,_,hk,fU,?_,r1,(xV.drew U w).trans r2⟩;have hL:=Rn.mQ U S.n ⟨w.drew.heap.size,0,(bs++zs).length,1⟩;have:=VR.rM (o:=0) (n:=s.size) (c:=s.size) (c':=cc) hL aCg (bQ _) (by simp only [kI];omega) Nat.one_pos;rw [mE];exact this
   ·cases hk
  ·cases hk
 ·rename_i n c
  cases hx.of_flat rfl;split at hk
  ·rename_i e hs hd
   split at hk
   ·rename_i he
    exact⟨U,_,S,_,w,hk,run_convert_bytes_nil w src e hs he _ _ dst hd,.flat rfl,h,.refl U w⟩
   ·cases hk
  ·cases hk
 ·rename_i i o sp len c
  split at hk
  ·cases hk
  ·rename_i e hs hd BA
   split at hk
   ·rename_i he
    rcases hx.mV with ⟨L,c',hL,rfl,_⟩ | ⟨⟨s1,h1⟩,rfl,rfl,_⟩
    ·obtain⟨vs,e',ck,ho,hle,hk⟩:=FK hk
     obtain⟨l',Qw,hlen,hc⟩:=h.JT ho hL hle;obtain⟨ns,hk,hns⟩:=Ib hk;rw [hns]at Qw;have aNO:l'=ns.map (fun n=> .int .u8 (.ofNat n)):=Qw.aDZ (by simp [bY]);refine⟨U,_,S,_,w,hk,?_,.flat rfl,h,.refl U w⟩;rw [run_convert_bytes_string w src dst e _ _ _ hs he hd];have PZ:=run_loadCells (P:=P) ⟨L.b,L.s+o,none⟩ l' hlen hc;rw [aNO]at PZ;have e1:(⟨ns.map (fun n=>Value.int .u8 (.ofNat n))⟩:Array Value)=((ns.map Int.ofNat).map (Value.int .u8)).toArray:=by simp [List.map_map,Function.comp_def]
     rw [e1]at PZ;rw [run_bytesToString w _ _ _ _ PZ]
     congr 2
     have hf:∀(l:List Nat) (r:ByteArray),(l.map Int.ofNat).foldl (fun r (n:Int)=>r.push (UInt8.ofNat n.toNat)) r=⟨r.data++(l.map UInt8.ofNat).toArray⟩:=by
      intro l;induction l with
      | nil=>intro r;simp
      | cons b l ih=>intro r;simp only [Ae,Ly,ih];simp [ByteArray.push]
     rw [hf];have he0:ByteArray.empty.data= #[]:=rfl;rw [he0];simp
    ·subst h1;exact bC rfl (BA _)
   ·cases hk
  ·cases hk
 ·cases hk
end conv
end Go.Am
namespace Go.Am
open Go.RowKit Go.MapKept
section maps
variable{P:Program}{w0:World}{U:Rn}{S:St}{w:World}
theorem Rel.aKW (h:Rel P w0 U S w){i:Nat}{o o':jB} (ho:S.obj i=some o) (hd:o.BL=false) (hr:o.reads=false) (hol:o.olds=[]){L:Loc} (hL:U i=some L) (hb:w0.heap.size<=L.b)
 (aNP:o'.olds=[]) (ob:Obj) (uS:(w.putObj L.b ob).heap[L.b]? =some ob->IF P w0 U (w.putObj L.b ob) i o'):Rel P w0 U (S.set i o') (w.putObj L.b ob)/\xV U w U (w.putObj L.b ob):=by
 have hlt:=h.loc i L hL;have uS:=uS (World.putObj_heap_same hlt)
 have oM:∀j x,j≠i->S.obj j=some x->x.BL=false->∀M,U j=some M->M.b≠L.b:=by
  intro j x Zx hx hxd M hM e;rcases h.sep i j o x L M (aP Zx) ho hx hd hxd hL hM e.symm with ⟨h1,_⟩ | h1 | h1
  ·rw [hr]at h1;cases h1
  ·rw [hol]at h1;cases h1
  ·cases x with
   | cells vs t k=>
    cases k with
    | grown olds=>
     obtain⟨_,h2⟩:=h.old j vs t olds hx i h1;rcases h2 o ho with h3 | ⟨ws,t',h3,_⟩
     ·rw [h3]at hd;cases hd
     ·rw [h3]at hr;cases hr
    | _=>cases h1
   | _=>cases h1
 have DK:∀j x,(S.set i o').obj j=some x->(j=i/\x=o')\/(j≠i/\S.obj j=some x):=fun j x hx=>by
  rw [GM]at hx;by_cases e:j=i
  ·rw [aO e]at hx;injection hx with hx;exact .inl ⟨e,hx.symm⟩
  ·rw [aG e]at hx;exact .inr ⟨e,hx⟩
 refine h.aL (S':=S.set i o') hb ⟨i,L,hL,rfl⟩ rfl (putObj_size _ _) (fun c hc=>yP hc) rfl rfl rfl (fun j x hx=>?_) (fun a b x y M N hab hx hy hxd hyd hM hN Rg=>?_) (fun j vs e olds hj q hq=>?_)
 ·rcases DK j x hx with ⟨rfl,rfl⟩ | ⟨e,hx⟩
  ·exact .inr (.inr ⟨h.lt j o ho,uS⟩)
  ·cases hxd:x.BL with
   | true=>exact .inl ⟨rfl,h.lt j x hx⟩
   | false=>exact .inr (.inl ⟨hx,oM j x e hx hxd⟩)
 ·rcases DK a x hx with ⟨e1,_⟩ | ⟨ea,TQ⟩<;>rcases DK b y hy with ⟨e2,_⟩ | ⟨eb,hy1⟩
  ·exact bC (e1.trans e2.symm) hab
  ·rw [e1,hL]at hM;injection hM with hM;subst hM;exact bC Rg.symm (oM b y eb hy1 hyd N hN)
  ·rw [e2,hL]at hN;injection hN with hN;subst hN;exact bC Rg (oM a x ea TQ hxd M hM)
  ·exact h.sep a b x y M N hab TQ hy1 hxd hyd hM hN Rg
 ·rcases DK j _ hj with ⟨rfl,e2⟩ | ⟨e,hj⟩
  ·rw [<-e2]at aNP;simp only [jB.olds]at aNP;subst aNP;cases hq
  ·obtain⟨h1,h2⟩:=h.old j vs _ olds hj q hq
   refine⟨h1,fun x hx=>?_⟩;rcases DK q x hx with ⟨rfl,rfl⟩ | ⟨e',hx⟩
   ·rcases h2 o ho with h3 | ⟨ws,t',h3,_⟩
    ·rw [h3]at hd;cases hd
    ·rw [h3]at hr;cases hr
   ·exact h2 x hx
theorem JU{m:Value}{k:Option Nat->List MapEntry->Nat->Bool} (hk:Vk S m k=true):
 (m= .map none/\k none [] 0=true)\/∃r es c,m= .map (some r)/\S.obj r=some (.map es c)/\k (some r) es c=true:=by
 unfold Vk at hk;split at hk
 ·exact .inl ⟨rfl,hk⟩
 ·rename_i r
  rw [nE]at hk;cases ho:S.h.get r with
  | none=>rw [ho]at hk;cases hk
  | some o=>
   rw [ho]at hk;cases o with
   | map es c=>exact .inr ⟨r,es,c,rfl,ho,hk⟩
   | _=>cases hk
 ·cases hk
theorem VR.JL{r:Nat}{v':Value} (h:VR U (.map (some r)) v'):∃L,U r=some L/\v'= .map (some L.b):=by
 cases h with
 | flat h=>simp [bY]at h
 | map h=>exact⟨_,h,rfl⟩
theorem Rel.map (h:Rel P w0 U S w){r:Nat}{es:List MapEntry}{c:Nat} (ho:S.obj r=some (.map es c)){L:Loc} (hL:U r=some L):∃jQ,w0.heap.size<=L.b/\w.heap[L.b]? =some (.map jQ c)/\gS U es jQ.toList:=by
 obtain⟨M,jQ,h1,h2,h3,h4⟩:=h.NX r _ ho;rw [hL]at h1;injection h1 with h1;subst h1;exact⟨jQ,h2,h3,h4⟩
theorem Ck{t:TypeId} (h:sE P t=true):QI P t=none:=by
 cases hs:QI P t with
 | none=>rfl
 | some fs=>obtain⟨hu,_⟩:=HA hs;unfold sE at h;rw [hu]at h;cases h
theorem Vv{t:TypeId} (h:sE P t=true){a b:Value}{k:Bool->Bool} (hk:IC P t a b k=true):wZ P t a b k=true:=by
 unfold IC at hk;split at hk
 ·unfold pN at hk
  simp only [Ck h]at hk;cases hk
 ·exact hk
theorem aAh{t:TypeId}{kd:TypeDesc} (hu:P.underlying t=some kd){a b:Value}{k:Bool->Bool} (hk:wZ P t a b k=true):∃e,k e=true/\Instr.sameNow kd a b=some e:=by
 unfold wZ at hk;rw [hu]at hk;split at hk
 ·rename_i q hq
  injection hq with hq;subst hq;split at hk
  ·rename_i j x l y
   split at hk
   ·rename_i hj
    have:=KH hj;subst this;rw [pJ,QM]at hk;exact⟨_,hk,by simp [Instr.sameNow]⟩
   ·cases hk
  ·cases hk
 ·rename_i hq
  injection hq with hq;subst hq;split at hk
  ·rename_i x y
   rw [pJ,QN]at hk
   have e:(x==y)=(x.data.toList==y.data.toList):=by
    rw [Lz,bytes_beq,beq_iff_eq];exact⟨fun h=>by rw [h],fun h=>ByteArray.ext (Array.toList_inj.1 h)⟩
   exact⟨_,hk,by rw [<-e];rfl⟩
  ·cases hk
 ·rename_i hq
  injection hq with hq;subst hq;split at hk
  ·rw [pJ]at hk
   exact⟨_,hk,rfl⟩
  ·cases hk
 ·cases hk
def findAux (P:Program) (t:TypeId) (key:Value) (k:Option (Nat×MapEntry)->Bool) (es:List MapEntry):Nat->Bool:=
 gX (β:=Nat->Bool) (fun _=>k none) (fun e _ ih i=>IC P t key e.key fun b=>match b with | true=>k (some (i,e)) | false=>bX (Nat.succ i) ih) es
def Tf (i:Nat) (l l':List MapEntry) (r:Option (Nat×MapEntry)) (r':Option (Nat×Value)):Prop:=
 (r=none/\r'=none)\/∃j e e',r=some (i+j,e)/\l[j]? =some e/\l'[j]? =some e'/\r'=some (i+j,e'.val)
theorem gS.cons_inv{e:MapEntry}{l l':List MapEntry} (h:gS U (e::l) l'):∃e' t',l'=e'::t'/\UO U e e'/\gS U l t':=by
 cases l' with
 | nil=>have:=h.1;simp at this
 | cons e' t'=>exact⟨e',t',rfl,h.2 0 e e' rfl rfl,by simpa using h.1,fun k x y a b=>h.2 (k+1) x y (by simpa using a) (by simpa using b)⟩
theorem Tf.step{i:Nat}{e e':MapEntry}{l l':List MapEntry}{r:Option (Nat×MapEntry)}{r':Option (Nat×Value)} (h:Tf (i+1) l l' r r'):Tf i (e::l) (e'::l') r r':=by
 rcases h with h | ⟨j,x,x',h1,h2,h3,h4⟩
 ·exact .inl h
 ·exact .inr ⟨j+1,x,x',by rw [h1];congr 2;omega,by simpa using h2,by simpa using h3,by rw [h4];congr 2;omega⟩
theorem Rh{t:TypeId}{kd:TypeDesc} (hp:sE P t=true) (hu:P.underlying t=some kd){key:Value}{k:Option (Nat×MapEntry)->Bool}:∀(l l':List MapEntry) (i:Nat),findAux P t key k l i=true->gS U l l'->
 ∃r r',k r=true/\Instr.findNow kd key l' i=some r'/\Tf i l l' r r':=by
 intro l;induction l with
 | nil=>
  intro l' i hk hl;have:l'=[]:=sB (by simpa using hl.1.symm);subst this;exact⟨none,none,hk,rfl,.inl ⟨rfl,rfl⟩⟩
 | cons e l ih=>
  intro l' i hk hl;obtain⟨e',t',rfl,he,ht⟩:=hl.cons_inv;obtain⟨b,hb,hs⟩:=aAh hu (Vv hp (show IC P t key e.key (fun b=>match b with | true=>k (some (i,e)) | false=>bX (Nat.succ i) (findAux P t key k l))=true from hk));rw [<-he.1]at hs;cases b with
  | true=>exact⟨_,_,hb,by simp only [Instr.findNow,hs];rfl,.inr ⟨0,e,e',rfl,rfl,rfl,rfl⟩⟩
  | false=>
   simp only [bJ]at hb;obtain⟨r,r',h1,h2,h3⟩:=ih t' (i+1) hb ht;exact⟨r,r',h1,by simp only [Instr.findNow,hs,h2],h3.step⟩
theorem Mh{t:TypeId}{fs:List Field} (hp:QI P t=some fs){key:Value} (xW:kO key=true){xs:Array Value} (hx:key= .agg xs){k:Option (Nat×MapEntry)->Bool}:∀(l l':List MapEntry) (i:Nat),
 findAux P t key k l i=true->gS U l l'->∃r r',k r=true/\(∀w,(Instr.findAsking t key l' i).run P w= .ok r' w)/\Tf i l l' r r':=by
 intro l;induction l with
 | nil=>
  intro l' i hk hl;have:l'=[]:=sB (by simpa using hl.1.symm);subst this;exact⟨none,none,hk,fun w=>rfl,.inl ⟨rfl,rfl⟩⟩
 | cons e l ih=>
  intro l' i hk hl;obtain⟨e',t',rfl,he,ht⟩:=hl.cons_inv;have hk:IC P t key e.key (fun b=>match b with | true=>k (some (i,e)) | false=>bX (Nat.succ i) (findAux P t key k l))=true:=hk
  have hk:pN P t key e.key (fun b=>match b with | true=>k (some (i,e)) | false=>bX (Nat.succ i) (findAux P t key k l))=true:=by
   unfold IC at hk;split at hk
   ·exact hk
   ·unfold wZ at hk
    rw [(HA hp).1]at hk;cases hk
  obtain⟨b,hb,hs,_⟩:=QO (U:=U) hk (VR.kO xW) (VR.kO he.2.1);rw [<-he.1]at hs;cases b with
  | true=>exact⟨_,_,hb,fun w=>by simp [Instr.findAsking,hs],.inr ⟨0,e,e',rfl,rfl,rfl,rfl⟩⟩
  | false=>
   simp only [bJ]at hb;obtain⟨r,r',h1,h2,h3⟩:=ih t' (i+1) hb ht;exact⟨r,r',h1,fun w=>by simp [Instr.findAsking,hs,h2],h3.step⟩
theorem BM{t:TypeId}{key:Value} (h:RY P t key=true):kO key=true/\(sE P t=true\/sE P t=false/\∃fs cs,QI P t=some fs/\key= .agg cs/\fs.length<=cs.toList.length):=by
 unfold RY at h;split at h
 ·rename_i hf
  refine⟨hf,?_⟩;split at h
  ·exact .inl (by assumption)
  ·rename_i h1
   split at h
   ·rename_i fs cs h2
    exact .inr ⟨h1,fs,cs,h2,rfl,cJ h⟩
   ·cases h
 ·cases h
theorem MM{t:TypeId}{key:Value} (xW:RY P t key=true){l l':List MapEntry}{k:Option (Nat×MapEntry)->Bool} (hk:Hy P t key l k=true) (hl:gS U l l'):
 ∃r r',k r=true/\(∀w,(Instr.findKey t key l').run P w= .ok r' w)/\Tf 0 l l' r r':=by
 have hk:findAux P t key k l 0=true:=hk;obtain⟨hf,hp | ⟨_,fs,cs,hs,hc,_⟩⟩:=BM xW
 ·cases hu:P.underlying t with
  | none=>unfold sE at hp;rw [hu]at hp;cases hp
  | some kd=>
   obtain⟨r,r',h1,h2,h3⟩:=Rh hp hu l l' 0 hk hl;exact⟨r,r',h1,fun w=>run_findKey hu h2,h3⟩
 ·obtain⟨r,r',h1,h2,h3⟩:=Mh hs hf hc l l' 0 hk hl
  refine⟨r,r',h1,fun w=>?_,h3⟩;have hu:=(HA hs).1;cases l' with
  | nil=>
   have h2:=h2 w;simp only [Instr.findAsking,kJ]at h2;injection h2 with h2;rw [<-h2];exact run_findKey hu rfl
  | cons e l'=>
   simp only [Instr.findKey,cP,run_underlying hu,eI];have:Instr.findNow (.struct (P.fieldsOf t)) key (e::l') 0=none:=by simp [Instr.findNow,Instr.sameNow]
   rw [this];exact h2 w
theorem UP{t:TypeId} (hp:sE P t=true) (em:Bool) (n:Nat) (v:Value) (w:World):(Instr.checkKey em (n+1) t v).run P w= .ok () w:=by
 unfold sE at hp;split at hp<;>first | (cases hp;done) | (rename_i hu;cases v<;>simp [Instr.checkKey,run_underlying hu])
theorem aAi (em:Bool) (n:Nat) (cs:Array Value) (w:World):∀(fs:List Field) (i:Nat),xS P i fs=true->i+fs.length<=cs.toList.length->
 (forIn fs PUnit.unit (fun f (_:PUnit)=>do
  if f.name≠ "_" then Instr.checkKey em (n+1) f.type (<-part f.type cs f.offset)
  pure (ForInStep.yield PUnit.unit):Field->PUnit->Sem (ForInStep PUnit))).run P w= .ok PUnit.unit w:=by
 intro fs;induction fs with
 | nil=>intro i _ _;rfl
 | cons f fs ih=>
  intro i hp hl;simp only [xS,dZ,beq_iff_eq,bne_iff_ne]at hp;obtain⟨⟨⟨aD0,aFq⟩,xJ⟩,xX⟩:=hp;simp only [oX]at hl;have hlt:i<cs.toList.length:=by omega
  have hg:cs.toList[i]? =some cs.toList[i]:=aT hlt;simp only [List.forIn_cons,cP,aD0,ne_eq,not_false_eq_true,if_true,aFq,UQ xJ hg,eI,UP xJ,kJ];exact ih (i+1) xX (by omega)
theorem iP{t:TypeId}{key:Value} (xW:RY P t key=true) (em:Bool) (w:World):(Instr.checkKey em 10000 t key).run P w= .ok () w:=by
 obtain⟨hf,hp | ⟨_,fs,cs,hs,rfl,hlen⟩⟩:=BM xW
 ·exact UP hp em 9999 key w
 ·obtain⟨hu,h2,h3,_,_⟩:=HA hs
  show(Instr.checkKey em (9999+1) t (.agg cs)).run P w=_;unfold Instr.checkKey;simp only [cP,run_underlying hu,eI];have:=aAi (P:=P) em 9998 cs w fs 0 h3 (by omega);rw [<-h2,Array.forIn_toList]at this;rw [this];rfl
end maps
section maps
variable{P:Program}{w0:World}{U:Rn}{S:St}{w:World}
theorem UR{n:Nat}{a b:Value} (ha:bY a=true) (hb:bY b=true) (h:Instr.sameBits n a b=true):a=b:=by
 cases a<;>first | (simp [bY]at ha;done) | skip
 all_goals (cases b<;>first | (simp [bY]at hb;done) | (simp [Instr.sameBits]at h;done) | skip)
 all_goals first
  | rfl
  | (simp [Instr.sameBits]at h;simp [h];done)
  | (rw [Instr.sameBits,bytes_beq]at h;rw [h];done)
  | (rename_i x y;cases x<;>cases y<;>first | rfl | (simp [bY]at ha;done) | (simp [bY]at hb;done))
theorem US{n:Nat}{a b:Value} (ha:kO a=true) (hb:kO b=true) (h:Instr.sameBits (n+1) a b=true):a=b:=by
 by_cases hA:∃x,a= .agg x
 ·obtain⟨x,rfl⟩:=hA
  cases b with
  | agg y=>
   simp only [Instr.sameBits,dZ,beq_iff_eq]at h;obtain⟨hs,h⟩:=h;have ha:∀v∈x.toList,bY v=true:=List.all_eq_true.1 ha;have hb:∀v∈y.toList,bY v=true:=List.all_eq_true.1 hb;have hs:x.toList.length=y.toList.length:=hs
   have h:∀(l m:List Value),l.length=m.length->(∀v∈l,bY v=true)->(∀v∈m,bY v=true)->((l.zip m).all fun(a,b)=>Instr.sameBits n a b)=true->l=m:=by
    intro l;induction l with
    | nil=>intro m hm _ _ _;exact(sB (by simpa using hm.symm)).symm
    | cons a l ih=>
     intro m hm h1 h2 h3;cases m with
     | nil=>simp at hm
     | cons b m=>
      simp only [List.zip_cons_cons,UG,dZ]at h3;rw [UR (h1 a (.head _)) (h2 b (.head _)) h3.1,ih m (by simpa using hm) (fun v hv=>h1 v (.tail _ hv)) (fun v hv=>h2 v (.tail _ hv)) h3.2]
   rw [Array.toList_inj.1 (h _ _ hs ha hb (by assumption))]
  | _=>simp [Instr.sameBits]at h
 ·have fa:bY a=true:=by cases a<;>first | exact ha | exact bC ⟨_,rfl⟩ hA
  by_cases hB:∃x,b= .agg x
  ·obtain⟨x,rfl⟩:=hB
   cases a<;>first | (simp [Instr.sameBits]at h;done) | exact bC ⟨_,rfl⟩ hA
  ·have fb:bY b=true:=by cases b<;>first | exact hb | exact bC ⟨_,rfl⟩ hB
   exact UR fa fb h
theorem gS.aCh{l l':List MapEntry} (h:gS U l l'){i:Nat}{e e' x:MapEntry} (hi:l[i]? =some e) (Av:l'[i]? =some e') (f:MapEntry->MapEntry) (hx:UO U x (f e')):gS U (l.set i x) (l'.modify i f):=by
 refine⟨by simp [h.1],fun k a b ha hb=>?_⟩;rw [Lw]at ha;rw [List.getElem?_modify]at hb;by_cases hk:i=k
 ·subst hk
  have:=(List.getElem?_eq_some_iff.1 hi).1;rw [aO rfl,aO this]at ha;rw [Av]at hb;simp at ha hb;subst ha hb;exact hx
 ·rw [aG hk]at ha
  cases hl:l'[k]? with
  | none=>rw [hl]at hb;cases hb
  | some y=>rw [hl]at hb;simp [hk]at hb;subst hb;exact h.2 k a y ha hl
theorem gS.aSA{l l':List MapEntry} (h:gS U l l'){i:Nat}{e e':MapEntry} (hi:l[i]? =some e) (Av:l'[i]? =some e') (f:MapEntry->MapEntry) (hx:UO U e (f e')):gS U l (l'.modify i f):=by
 have:=h.aCh hi Av f hx
 have e1:l.set i e=l:=by
  apply xM;intro k;rw [Lw];split
  ·rename_i hk;subst hk;split
   ·exact hi.symm
   ·rename_i hl;exact bC (List.getElem?_eq_some_iff.1 hi).1 hl
  ·rfl
 rwa [e1]at this
theorem gS.push{l l':List MapEntry} (h:gS U l l'){e e':MapEntry} (he:UO U e e'):gS U (l++[e]) (l'++[e']):=by
 refine⟨by simp [h.1],fun k a b ha hb=>?_⟩;by_cases hk:k<l.length
 ·rw [gO hk]at ha
  rw [gO (by rw [<-h.1];exact hk)]at hb;exact h.2 k a b ha hb
 ·rw [kH (by omega)]at ha
  rw [kH (by rw [<-h.1];omega),<-h.1]at hb
  have:k-l.length=0:=by
   have:=(List.getElem?_eq_some_iff.1 ha).1;simpa using this
  rw [this]at ha hb;simp at ha hb;subst ha hb;exact he
theorem gS.erase{l l':List MapEntry} (h:gS U l l') (i:Nat):gS U (l.eraseIdx i) (l'.eraseIdx i):=by
 refine⟨by simp [List.length_eraseIdx,h.1],fun k a b ha hb=>?_⟩;rw [List.getElem?_eraseIdx]at ha hb;split at ha
 ·rename_i hk;rw [aO hk]at hb;exact h.2 k a b ha hb
 ·rename_i hk;rw [aG hk]at hb;exact h.2 _ a b ha hb
theorem BZ{t kt et:TypeId} (h:ID P t=some (kt,et)):P.underlying t=some (.map kt et):=by
 unfold ID at h;split at h
 ·rename_i hu;injection h with h;injection h with h1 h2;subst h1 h2;exact hu
 ·cases h
theorem Gk{t:TypeId}{z:Value} (h:zeroV P t=some z) (w:World):(zeroValue t).run P w= .ok z w:=by
 unfold zeroV at h;cases hi:P.info? t with
 | none=>rw [hi]at h;cases h
 | some i=>rw [hi]at h;simp [zeroValue,aG6 hi,show i.zero=some z from h]
theorem VR.key{kt:TypeId}{key Mi:Value} (h:VR U key Mi) (hk:RY P kt key=true):Mi=key:=h.aG7 (BM hk).1
theorem YR (h:Rel P w0 U S w){t:TypeId}{x x' ix ix':Value}{ok:Bool}{K:VK} (hk:XE P t x ix ok S K=true) (hx:VR U x x') (hi:VR U ix ix'):
 ∃v v',K v S=true/\VR U v v'/\(Instr.lookup t x' ix' ok).run P w= .ok v' w:=by
 unfold XE at hk;split at hk
 ·rename_i kt et hm
  have hu:=BZ hm;split at hk
  ·rename_i zero xW hz
   rw [hi.key xW]
   have main:∀(es:List MapEntry) (jQ:Array MapEntry),gS U es jQ.toList->Hy P kt ix es (fun r=>match r with
    | some (_,e)=>match(generalizing:=false) ok with | true=>K (.tuple ⟨[e.val,.bool true]⟩) S | false=>K e.val S
    | none=>match kO zero with
     | true=>match(generalizing:=false) ok with | true=>K (.tuple ⟨[zero,.bool false]⟩) S | false=>K zero S
     | false=>false)=true->
    ∃v v',K v S=true/\VR U v v'/\(do
     Instr.checkKey jQ.isEmpty 10000 kt ix
     let(v,o)<-match<-Instr.findKey kt ix jQ.toList with
      | some (_,v)=>pure (v,true)
      | none=>pure (<-zeroValue et,false)
     pure (if ok then .tuple #[v,.bool o]else v):Sem Value).run P w= .ok v' w:=by
    intro es jQ XG hk;obtain⟨r,r',hk,fU,hr⟩:=MM xW hk XG;rcases hr with ⟨rfl,rfl⟩ | ⟨j,e,e',rfl,h1,h2,rfl⟩
    ·simp only at hk
     split at hk
     ·rename_i hfz
      have Te:VR U zero zero:=VR.kO hfz;cases ok with
      | true=>exact⟨_,_,hk,.pO (.cons Te (.cons (.flat rfl) (.nil U))),by simp [iP xW,fU,Gk hz]⟩
      | false=>exact⟨_,_,hk,Te,by simp [iP xW,fU,Gk hz]⟩
     ·cases hk
    ·have hv:=(XG.2 j e e' h1 h2).2.2.2
     cases ok with
     | true=>exact⟨_,_,hk,.pO (.cons hv (.cons (.flat rfl) (.nil U))),by simp [iP xW,fU]⟩
     | false=>exact⟨_,_,hk,hv,by simp [iP xW,fU]⟩
   rcases JU hk with ⟨rfl,vO⟩ | ⟨r,es,c,rfl,ho,vO⟩
   ·cases hx.of_flat rfl
    obtain⟨v,v',h1,h2,h3⟩:=main [] #[] ⟨rfl,by simp⟩ vO;refine⟨v,v',h1,h2,?_⟩;rw [<-h3];simp [Instr.lookup,run_underlying hu];rfl
   ·obtain⟨L,hL,rfl⟩:=hx.JL
    obtain⟨jQ,_,hb,XG⟩:=h.map ho hL;obtain⟨v,v',h1,h2,h3⟩:=main es jQ XG vO;refine⟨v,v',h1,h2,?_⟩;rw [<-h3];simp [Instr.lookup,run_underlying hu,MapKept.run_getObj_map hb];rfl
  ·cases hk
 ·cases hk
theorem Rel.Aw (h:Rel P w0 U S w){r:Nat}{es:List MapEntry}{c:Nat} (ho:S.obj r=some (.map es c)){L:Loc} (hL:U r=some L){o:Obj} (hb:w.heap[L.b]? =some o) (CA:w0.heap.size<=L.b){es2:List MapEntry}{Mj:Array MapEntry}{c2:Nat} (he:gS U es2 Mj.toList)
 (hob:∃jQ c',o= .map jQ c'):∃w',(setObj L.b (.map Mj c2)).run P w= .ok () w'/\Rel P w0 U (S.set r (.map es2 c2)) w'/\xV U w U w':=by
 obtain⟨jQ,c',rfl⟩:=hob;obtain⟨r1,r2⟩:=h.aKW (o':= .map es2 c2) ho rfl rfl rfl hL CA rfl (.map Mj c2) (fun hh=>⟨L,Mj,hL,CA,hh,he⟩);exact⟨_,MapKept.run_setObj_map _ hb,r1,r2⟩
theorem Tg{a b:Value} (h:Instr.sameBits 10000 a b=true) (w:World):(Instr.keyThatStays a b).run P w= .ok b w:=by simp [Instr.keyThatStays,h]
theorem OP (h:Rel P w0 U S w){t:TypeId}{m m' key Mi x x':Value}{k:St->Bool} (hk:FI P t m key x S k=true) (hm:VR U m m') (aAj:VR U key Mi) (hx:VR U x x'):
 ∃S' w',k S'=true/\Rel P w0 U S' w'/\xV U w U w'/\(Instr.mapUpdate t m' Mi x').run P w= .ok () w':=by
 unfold FI at hk;split at hk
 ·rename_i kt et hmt
  have hu:=BZ hmt;split at hk
  ·rename_i xW
   rw [aAj.key xW];rcases JU hk with ⟨rfl,vO⟩ | ⟨r,es,c,rfl,ho,vO⟩
   ·cases vO
   ·obtain⟨L,hL,rfl⟩:=hm.JL
    obtain⟨jQ,CA,hb,XG⟩:=h.map ho hL;have hk:=vO;simp only at hk;obtain⟨q,q',hk,fU,hr⟩:=MM xW hk XG;rcases hr with ⟨rfl,rfl⟩ | ⟨j,e,e',rfl,h1,h2,rfl⟩
    ·simp only [nF,bJ,gU]at hk
     obtain⟨w',hw,r1,r2⟩:=h.Aw (P:=P) ho hL hb CA (es2:=es++[{key:=key,val:=x,born:=c}]) (Mj:=jQ.push {key:=key,val:=x',born:=c}) (c2:=c+1)
      (by rw [Array.toList_push];exact XG.push ⟨rfl,(BM xW).1,rfl,hx⟩) ⟨_,_,rfl⟩
     exact⟨_,w',hk,r1,r2,by simp [Instr.mapUpdate,run_underlying hu,MapKept.run_getObj_map hb,iP xW,fU,hw]⟩
    ·simp only [eJ]at hk
     split at hk
     ·rename_i hsb
      rw [Ml,gU]at hk;have hrel:=XG.2 j e e' h1 h2;have hee:e.key=key:=US hrel.2.1 (BM xW).1 hsb
      obtain⟨w',hw,r1,r2⟩:=h.Aw (P:=P) ho hL hb CA (es2:=es.set j {e with val:=x}) (Mj:=jQ.modify j fun e=>{e with key:=key,val:=x'}) (c2:=c)
       (by rw [Array.toList_modify];exact XG.aCh h1 h2 _ ⟨hee.symm,hrel.2.1,hrel.2.2.1,hx⟩) ⟨_,_,rfl⟩
      refine⟨_,w',hk,r1,r2,?_⟩;have h2':jQ[j]? =some e':=by simpa using h2
      have:Instr.sameBits 10000 e'.key key=true:=by rw [hrel.1];exact hsb
      simp [Instr.mapUpdate,run_underlying hu,MapKept.run_getObj_map hb,iP xW,fU,h2',Tg this,hw]
     ·cases hk
  ·cases hk
 ·cases hk
theorem Rel.same (h:Rel P w0 U S w){O:St} (ho:∀j,S.obj j=O.obj j) (hn:S.n=O.n):Rel P w0 U O w:=
 ⟨h.Mm,fun i o hi=>h.NX i o ((ho i).trans hi),fun i hi=>h.dom i (by omega),fun i o hi=>by rw [<-hn];exact h.lt i o ((ho i).trans hi),h.loc,
  fun i j a b L M Ri ha hb=>h.sep i j a b L M Ri ((ho i).trans ha) ((ho j).trans hb),
  fun j vs e olds hj i hi=>by rw [<-hn];obtain⟨h1,h2⟩:=h.old j vs e olds ((ho j).trans hj) i hi;exact⟨h1,fun o hx=>h2 o ((ho i).trans hx)⟩,h.base⟩
theorem Jq (h:Rel P w0 U S w){t:TypeId}{m m' key Mi:Value}{K:VK} (hk:Gf P t m key S K=true) (hm:VR U m m') (aAj:VR U key Mi):
 ∃v S' v' w',K v S'=true/\VR U v v'/\Rel P w0 U S' w'/\xV U w U w'/\(Instr.mapEntry t m' Mi).run P w= .ok v' w':=by
 unfold Gf at hk;split at hk
 ·rename_i kt et hmt
  have hu:=BZ hmt;split at hk
  ·rename_i zero xW hz
   rw [aAj.key xW];rcases JU hk with ⟨rfl,vO⟩ | ⟨r,es,c,rfl,ho,vO⟩
   ·cases vO
   ·obtain⟨L,hL,rfl⟩:=hm.JL
    obtain⟨jQ,CA,hb,XG⟩:=h.map ho hL;have hk:=vO;simp only at hk;obtain⟨q,q',hk,fU,hr⟩:=MM xW hk XG;rcases hr with ⟨rfl,rfl⟩ | ⟨j,e,e',rfl,h1,h2,rfl⟩
    ·simp only at hk
     split at hk
     ·rename_i hfz
      simp only [nF,bJ,gU]at hk
      obtain⟨w',hw,r1,r2⟩:=h.Aw (P:=P) ho hL hb CA (es2:=es++[{key:=key,val:=zero,born:=c}]) (Mj:=jQ.push {key:=key,val:=zero,born:=c}) (c2:=c+1)
       (by rw [Array.toList_push];exact XG.push ⟨rfl,(BM xW).1,rfl,VR.kO hfz⟩) ⟨_,_,rfl⟩
      exact⟨_,_,_,w',hk,.pO (.cons (VR.kO hfz) (.cons (.flat rfl) (.nil U))),r1,r2,by simp [Instr.mapEntry,run_underlying hu,MapKept.run_getObj_map hb,iP xW,fU,Gk hz,hw];rfl⟩
     ·cases hk
    ·dsimp only at hk
     split at hk
     ·rename_i hsb
      have hrel:=XG.2 j e e' h1 h2;have hee:e.key=key:=US hrel.2.1 (BM xW).1 hsb
      obtain⟨w',hw,r1,r2⟩:=h.Aw (P:=P) ho hL hb CA (es2:=es) (Mj:=jQ.modify j fun e=>{e with key:=key}) (c2:=c)
       (by rw [Array.toList_modify];exact XG.aSA h1 h2 _ ⟨hee.symm,hrel.2.1,hrel.2.2.1,hrel.2.2.2⟩) ⟨_,_,rfl⟩
      have aKX:S.set r (.map es c)=S.set r (.map es c):=rfl;refine⟨_,S,_,w',hk,.pO (.cons hrel.2.2.2 (.cons (.flat rfl) (.nil U))),?_,r2,?_⟩
      ·exact r1.same (fun j=>by
        rw [GM];split
        ·rename_i e;subst e;exact ho.symm
        ·rfl) rfl
      ·have h2':jQ[j]? =some e':=by simpa using h2
       have:Instr.sameBits 10000 e'.key key=true:=by rw [hrel.1];exact hsb
       simp [Instr.mapEntry,run_underlying hu,MapKept.run_getObj_map hb,iP xW,fU,h2',Tg this,hw,goInt,hrel.2.2.1]
     ·cases hk
  ·cases hk
 ·cases hk
end maps
section maps
variable{P:Program}{w0:World}{U:Rn}{S:St}{w:World}
def MO (n:Nat) (k:Nat->MapEntry->Bool) (es:List MapEntry):Nat->Bool:=
 gX (β:=Nat->Bool) (fun _=>false) (fun e _ ih i=>match Nat.beq e.born n with | true=>k i e | false=>bX (Nat.succ i) ih) es
theorem YS{n:Nat}{k:Nat->MapEntry->Bool}:∀(l l':List MapEntry) (i:Nat),MO n k l i=true->gS U l l'->
 ∃j e e',k (i+j) e=true/\l[j]? =some e/\l'[j]? =some e'/\l'.findIdx? (fun e=>(e.born:Int)==(n:Int))=some j:=by
 intro l;induction l with
 | nil=>intro l' i hk _;cases hk
 | cons e l ih=>
  intro l' i hk hl;obtain⟨e',t',rfl,he,ht⟩:=hl.cons_inv;have hk:(match(generalizing:=false) Nat.beq e.born n with | true=>k i e | false=>bX (Nat.succ i) (MO n k l))=true:=hk;split at hk
  ·rename_i hb
   have hb:=dH hb;exact⟨0,e,e',hk,rfl,rfl,by simp [List.findIdx?_cons,he.2.2.1,hb]⟩
  ·rename_i hb
   have hb:=UC hb;rw [bJ]at hk;obtain⟨j,x,x',h1,h2,h3,h4⟩:=ih t' (i+1) hk ht;refine⟨j+1,x,x',by rw [<-h1];congr 1;omega,by simpa using h2,by simpa using h3,?_⟩;have:((e'.born:Int)==(n:Int))=false:=by rw [he.2.2.1,beq_eq_false_iff_ne];omega
   simp [List.findIdx?_cons,this,h4]
theorem Cl (h:Rel P w0 U S w){t:TypeId}{m m' s s' x x':Value}{k:St->Bool} (hk:UM m s x S k=true) (hm:VR U m m') (hs:VR U s s') (hx:VR U x x'):
 ∃S' w',k S'=true/\Rel P w0 U S' w'/\xV U w U w'/\(Instr.entryStore t m' s' x').run P w= .ok () w':=by
 unfold UM at hk;split at hk
 ·rename_i kd n
  cases hs.of_flat rfl;rcases JU hk with ⟨rfl,vO⟩ | ⟨r,es,c,rfl,ho,vO⟩
  ·cases vO
  ·obtain⟨L,hL,rfl⟩:=hm.JL
   obtain⟨jQ,CA,hb,XG⟩:=h.map ho hL;have hk:=vO;simp only at hk;obtain⟨j,e,e',hk,h1,h2,h3⟩:=YS es jQ.toList 0 hk XG;rw [Ml,gU,eJ]at hk;have hrel:=XG.2 j e e' h1 h2
   obtain⟨w',hw,r1,r2⟩:=h.Aw (P:=P) ho hL hb CA (es2:=es.set j {e with val:=x}) (Mj:=jQ.modify j fun e=>{e with val:=x'}) (c2:=c)
    (by rw [Array.toList_modify];exact XG.aCh h1 h2 _ ⟨hrel.1,hrel.2.1,hrel.2.2.1,hx⟩) ⟨_,_,rfl⟩
   refine⟨_,w',hk,r1,r2,?_⟩;have h3':jQ.findIdx? (fun e=>(e.born:Int)==(n:Int))=some j:=by rw [<-h3,<-List.findIdx?_toArray,Array.toArray_toList]
   have hai:(asInt (.int kd (Int.ofNat n))).run P w= .ok (n:Int) w:=by simp [asInt,asIntOf]
   simp only [Instr.entryStore,cP,MapKept.run_getObj_map hb,eI,hai,h3',hw]
 ·cases hk
theorem Rj (h:Rel P w0 U S w){ts:Array TypeId}{t:TypeId}{m m' key Mi:Value}{k:St->Bool} (hk:Vl P ts.toList m key S k=true) (hm:VR U m m') (aAj:VR U key Mi):
 ∃S' w',k S'=true/\Rel P w0 U S' w'/\xV U w U w'/\(Builtin.delete_ ts t #[m',Mi]).run P w= .ok (.tuple #[]) w':=by
 unfold Vl at hk;split at hk
 ·rename_i t0 ts' Mn
  have h0:ts[0]? =some t0:=by have:=jY (·[0]?) Mn;simpa using this
  split at hk
  ·rename_i kt et hmt
   have hu:=BZ hmt;split at hk
   ·rename_i xW
    rw [aAj.key xW];rcases JU hk with ⟨rfl,vO⟩ | ⟨r,es,c,rfl,ho,vO⟩
    ·cases hm.of_flat rfl
     exact⟨S,w,vO,h,.refl U w,by simp [Builtin.delete_,h0,run_underlying hu,iP xW]⟩
    ·obtain⟨L,hL,rfl⟩:=hm.JL
     obtain⟨jQ,CA,hb,XG⟩:=h.map ho hL;have hk:=vO;simp only at hk;obtain⟨q,q',hk,fU,hr⟩:=MM xW hk XG;rcases hr with ⟨rfl,rfl⟩ | ⟨j,e,e',rfl,h1,h2,rfl⟩
     ·simp only at hk
      obtain⟨w',hw,r1,r2⟩:=h.Aw (P:=P) ho hL hb CA (es2:=es) (Mj:=jQ) (c2:=c) XG ⟨_,_,rfl⟩;refine⟨S,w',hk,?_,r2,by simp [Builtin.delete_,h0,run_underlying hu,MapKept.run_getObj_map hb,iP xW,fU,hw]⟩
      exact r1.same (fun j=>by
       rw [GM];split
       ·rename_i e;subst e;exact ho.symm
       ·rfl) rfl
     ·simp only [eJ,aFr,gU]at hk
      obtain⟨w',hw,r1,r2⟩:=h.Aw (P:=P) ho hL hb CA (es2:=es.eraseIdx j) (Mj:=jQ.eraseIdxIfInBounds j) (c2:=c)
       (by
        have:(jQ.eraseIdxIfInBounds j).toList=jQ.toList.eraseIdx j:=by
         have hlt:j<jQ.size:=by have:=(List.getElem?_eq_some_iff.1 h2).1;simpa using this
         simp [Array.eraseIdxIfInBounds,hlt]
        rw [this];exact XG.erase j) ⟨_,_,rfl⟩
      exact⟨_,w',hk,r1,r2,by simp [Builtin.delete_,h0,run_underlying hu,MapKept.run_getObj_map hb,iP xW,fU,hw]⟩
   ·cases hk
  ·cases hk
 ·cases hk
theorem UT (h:Rel P w0 U S w){t:TypeId}{K:VK} (hk:zU S (.map [] 0) (fun i S=>K (.map (some i)) S)=true):
 ∃U' v S' v' w',K v S'=true/\(Instr.makeMap t none).run P w= .ok v' w'/\VR U' v v'/\Rel P w0 U' S' w'/\xV U w U' w':=by
 rw [jF]at hk;obtain⟨r1,r2⟩:=h.new (.map [] 0) (.map #[] 0) ⟨w.heap.size,0,0,0⟩ rfl (fun U' _ hUz=>⟨_,#[],hUz,h.base.size,by show(w.heap.push _)[w.heap.size]? =_;simp,rfl,by simp⟩) (by simp [jB.olds]);exact⟨_,_,_,_,_,hk,by simp [Instr.makeMap,newObj];rfl,.map (Rn.mQ U S.n _),r1,r2⟩
theorem Mo (h:Rel P w0 U S w){t:TypeId}{r r':Value}{K:VK} (hr:VR U r r')
 (hk:(match(generalizing:=false) r,ID P t with | .int _ _,some _=>zU S (.map [] 0) (fun i S=>K (.map (some i)) S) | _,_=>false)=true):
 ∃U' v S' v' w',K v S'=true/\(Instr.makeMap t (some r')).run P w= .ok v' w'/\VR U' v v'/\Rel P w0 U' S' w'/\xV U w U' w':=by
 split at hk
 ·rename_i hm
  have hu:=BZ hm;cases hr.of_flat rfl;obtain⟨U',v,S',v',w',h1,h2,h3⟩:=UT (t:=t) h hk;refine⟨U',v,S',v',w',h1,?_,h3⟩;simp [Instr.makeMap,run_underlying hu,asInt,asIntOf]at h2 ⊢;exact h2
 ·cases hk
theorem aKY (n:Nat) (l:List Nat):aKU n l=l.contains n:=by
 induction l with
 | nil=>rfl
 | cons m l ih=>
  show gE (Nat.beq m n) true (aKU n l)=_;rw [ih,List.contains_cons];cases hb:Nat.beq m n with
  | true=>have:=dH hb;subst this;simp [gE]
  | false=>have:=UC hb;have h2:(n==m)=false:=by simpa using aP this
           rw [h2];rfl
theorem aAk (seen:List Nat) (k:List MapEntry->Bool) (es:List MapEntry):aAd seen es k=k (es.filter fun e=> !seen.contains e.born):=by
 induction es generalizing k with
 | nil=>rfl
 | cons e es ih=>
  show gE (aKU e.born seen) (aAd seen es k) (aAd seen es fun t=>k (e::t))=_;rw [aKY,ih,ih,List.filter_cons];cases hb:seen.contains e.born<;>rfl
theorem gS.aQq{l l':List MapEntry} (h:gS U l l'){e':MapEntry} (he:e'∈l'):∃e,e∈l/\UO U e e':=by
 obtain⟨k,hk,rfl⟩:=ZY he;have hl:k<l.length:=by rw [h.1];exact hk
 exact⟨l[k],cO hl,h.2 k _ _ (aT hl) (aT hk)⟩
theorem gS.mem{l l':List MapEntry} (h:gS U l l'){e:MapEntry} (he:e∈l):∃e',e'∈l'/\UO U e e':=by
 obtain⟨k,hk,rfl⟩:=ZY he;have hl:k<l'.length:=by rw [<-h.1];exact hk
 exact⟨l'[k],cO hl,h.2 k _ _ (aT hk) (aT hl)⟩
theorem Rk (h:Rel P w0 U S w){t:TypeId}{x x':Value}{K:VK} (hk:Cd P t x S K=true) (hx:VR U x x'):
 ∃U' v S' v' w',K v S'=true/\(Instr.range t x').run P w= .ok v' w'/\VR U' v v'/\Rel P w0 U' S' w'/\xV U w U' w':=by
 unfold Cd at hk;split at hk
 ·rename_i kt et hm
  have hu:=BZ hm;split at hk
  ·cases hx.of_flat rfl
   rw [jF]at hk;obtain⟨r1,r2⟩:=h.new (.iter none 0 [] 0) (.mapIter none 0 #[] 0) ⟨w.heap.size,0,0,0⟩ rfl (fun U' _ hUz=>⟨_,0,#[],0,⟨hUz,rfl⟩,h.base.size,by show(w.heap.push _)[w.heap.size]? =_;simp⟩) (by simp [jB.olds]);exact⟨_,_,_,_,_,hk,run_range_nilMap w t _ _ hu,.ptr (Rn.mQ U S.n _),r1,r2⟩
  ·rename_i r
   obtain⟨L,hL,rfl⟩:=hx.JL;rw [nE]at hk;cases ho:S.h.get r with
   | none=>rw [ho]at hk;cases hk
   | some o=>
    rw [ho]at hk;cases o with
    | map es c=>
     obtain⟨jQ,CA,hb,XG⟩:=h.map ho hL;have hk:zU S (.iter (some r) c [] c) (fun i S=>K (.pointer (some ⟨i,0,none⟩)) S)=true:=hk;rw [jF]at hk
     obtain⟨r1,r2⟩:=h.new (.iter (some r) c [] c) (.mapIter (some L.b) c #[] c) ⟨w.heap.size,0,0,0⟩ rfl
      (fun U' he hUz=>⟨_,L,⟨hUz,rfl⟩,h.base.size,he _ _ hL,by show(w.heap.push _)[w.heap.size]? =_;simp⟩) (by simp [jB.olds])
     exact⟨_,_,_,_,_,hk,run_range_map w t _ _ L.b jQ c hu hb,.ptr (Rn.mQ U S.n _),r1,r2⟩
    | _=>cases hk
  ·cases hk
 ·cases hk
theorem aAl (h:Rel P w0 U S w){ty:TypeId}{x x':Value}{K:VK} (hk:aDW x S K=true) (hx:VR U x x'):
 ∃v S' v' w',K v S'=true/\(Instr.next x' false ty).run P w= .ok v' w'/\VR U v v'/\Rel P w0 U S' w'/\xV U w U w':=by
 unfold aDW at hk;split at hk
 ·rename_i i
  obtain⟨_,L,hL,rfl⟩:=hx.JJ;rw [nE]at hk;cases ho:S.h.get i with
  | none=>rw [ho]at hk;cases hk
  | some o=>
   rw [ho]at hk;cases o with
   | iter m since seen last=>
    cases m with
    | none=>
     have hk:K (.tuple ⟨[.bool false]⟩) S=true:=hk;obtain⟨L',a,b,c,⟨h1,hs⟩,h2,h3⟩:=h.NX i _ ho;rw [hL]at h1;injection h1 with h1;subst h1;refine⟨_,S,_,w,hk,?_,.pO (.cons (.flat rfl) (.nil U)),h,.refl U w⟩;rw [hs];simp only [Instr.next,getObj,cP,Sem.run,h3,Result.andThen];rfl
    | some r=>
     obtain⟨L',M,⟨h1,hs⟩,h2,h3,h4⟩:=h.NX i _ ho;rw [hL]at h1;injection h1 with h1;subst h1;rw [hs]
     have hk:rL S.h r (fun o=>match o with
      | .map es c=>match xP (fun e=>Nat.blt e.born since) es,Nat.ble since last with
       | true,true=>aAd seen es fun l=>match l with
        | []=>K (.tuple ⟨[.bool false]⟩) S
        | e::t=>xP (fun e=>FE seen [e.born] fun seen=>sV S i (.iter (some r) since seen c) fun S=>K (.tuple ⟨[.bool true,e.key,e.val]⟩) S) (e::t)
       | _,_=>false
      | _=>false)=true:=hk
     rw [nE]at hk;cases BN:S.h.get r with
     | none=>rw [BN]at hk;cases hk
     | some o2=>
      rw [BN]at hk;cases o2 with
      | map es c=>
       obtain⟨jQ,CA,hb,XG⟩:=h.map BN h3;dsimp only at hk;split at hk
       ·rename_i hold hsc
        rw [nD]at hold;have hsc:=cJ hsc
        have aQr:∀x∈jQ.toList,x.born<since:=by
         intro x hx;obtain⟨e,he,hr⟩:=XG.aQq hx;have:=List.all_eq_true.1 hold e he;rw [hr.2.2.1];exact cJ this
        rw [aAk]at hk
        have aQs:∀e'∈(leftOf jQ ⟨seen⟩).toList,∃e,e∈es.filter (fun e=> !seen.contains e.born)/\UO U e e':=by
         intro e' he';unfold leftOf at he';rw [Array.toList_filter]at he';obtain⟨h5,h6⟩:=List.mem_filter.1 he';obtain⟨e,he,hr⟩:=XG.aQq h5;refine⟨e,List.mem_filter.2 ⟨he,?_⟩,hr⟩;rw [hr.2.2.1]at h6;simpa using h6
        rcases run_next_at (P:=P) w ty L.b M.b since last ⟨seen⟩ jQ c h4 hb aQr hsc with ⟨h0,fU⟩ | ⟨e',he',w1,hw1,fU⟩
        ·have Rl:es.filter (fun e=> !seen.contains e.born)=[]:=by
          cases hf:es.filter (fun e=> !seen.contains e.born)with
          | nil=>rfl
          | cons e t=>
           exfalso;have hm:e∈es.filter (fun e=> !seen.contains e.born):=by rw [hf];exact .head _
           obtain⟨h5,h6⟩:=List.mem_filter.1 hm;obtain⟨e',he',hr⟩:=XG.mem h5
           have:e'∈(leftOf jQ ⟨seen⟩).toList:=by
            unfold leftOf;rw [Array.toList_filter];refine List.mem_filter.2 ⟨he',?_⟩;rw [hr.2.2.1];simpa using h6
           have hz:(leftOf jQ ⟨seen⟩).toList=[]:=sB (by simpa using h0);rw [hz]at this;cases this
         rw [Rl]at hk;exact⟨_,S,_,w,hk,fU,.pO (.cons (.flat rfl) (.nil U)),h,.refl U w⟩
        ·obtain⟨e,he,hr⟩:=aQs e' he'
         have oP:(es.filter (fun e=> !seen.contains e.born)).all (fun e=>FE seen [e.born] fun seen=>sV S i (.iter (some r) since seen c) fun S=>K (.tuple ⟨[.bool true,e.key,e.val]⟩) S)=true:=by
          cases hf:es.filter (fun e=> !seen.contains e.born)with
          | nil=>rfl
          | cons x t=>rw [hf]at hk;simp only [nD]at hk;exact hk
         have hk:=List.all_eq_true.1 oP e he;rw [nF,gU]at hk
         have aQt:Rel P w0 U S w1/\xV U w U w1/\w1.heap=w.heap:=by
          rcases hw1 with rfl | rfl
          ·exact⟨h,.refl _ _,rfl⟩
          ·exact⟨h.drew,.drew _ _,rfl⟩
         obtain⟨hr1,xK,hh1⟩:=aQt
         obtain⟨r1,r2⟩:=hr1.aKW (o':= .iter (some r) since (seen++[e.born]) c) ho rfl rfl rfl hL h2 rfl (.mapIter (some M.b) since ((⟨seen⟩:Array Nat).push e'.born) c)
          (fun Vp=>⟨L,M,⟨hL,hs⟩,h2,h3,by rw [Vp,hr.2.2.1];simp⟩)
         exact⟨_,_,_,_,hk,fU,.pO (.cons (.flat rfl) (.cons (by rw [hr.1];exact .kO hr.2.1) (.cons hr.2.2.2 (.nil U)))),r1,xK.trans r2⟩
       ·cases hk
      | _=>cases hk
   | _=>cases hk
 ·cases hk
theorem aCi{l:List Nat}{k:Nat->Bool} (hk:aAe l k=true):∃b,l.getLast?=some b/\k b=true:=by
 induction l with
 | nil=>cases hk
 | cons n t ih=>
  cases t with
  | nil=>exact⟨n,rfl,hk⟩
  | cons m t=>
   obtain⟨b,h1,h2⟩:=ih hk;exact⟨b,by rw [List.getLast?_cons_cons];exact h1,h2⟩
theorem Vw (h:Rel P w0 U S w){x x':Value}{K:VK} (hk:Vm x S K=true) (hx:VR U x x'):
 ∃v v',K v S=true/\VR U v v'/\(Instr.entry x').run P w= .ok v' w:=by
 unfold Vm at hk;split at hk
 ·rename_i i
  obtain⟨_,L,hL,rfl⟩:=hx.JJ;rw [nE]at hk;cases ho:S.h.get i with
  | none=>rw [ho]at hk;cases hk
  | some o=>
   rw [ho]at hk;cases o with
   | iter m since seen last=>
    cases m with
    | none=>cases hk
    | some r=>
     obtain⟨L',M,⟨h1,hs⟩,h2,h3,h4⟩:=h.NX i _ ho;rw [hL]at h1;injection h1 with h1;subst h1;rw [hs]
     replace hk:rL S.h r (fun o=>match o with
      | .map es c=>match Nat.beq c last with
       | true=>aAe seen fun b=>Tc b es fun _ e=>K (.tuple ⟨[e.key,e.val]⟩) S
       | false=>false
      | _=>false)=true:=hk
     rw [nE]at hk;cases BN:S.h.get r with
     | none=>rw [BN]at hk;cases hk
     | some o2=>
      rw [BN]at hk;cases o2 with
      | map es c=>
       obtain⟨jQ,CA,hb,XG⟩:=h.map BN h3;dsimp only at hk;split at hk
       ·rename_i Bx
        obtain rfl:=dH Bx;obtain⟨b,aNe,hk⟩:=aCi hk;have hk:MO b (fun _ e=>K (.tuple ⟨[e.key,e.val]⟩) S) es 0=true:=hk;obtain⟨j,e,e',hk,he,he',hf⟩:=YS es jQ.toList 0 hk XG;have hr:=XG.2 j e e' he he';refine⟨_,_,hk,.pO (.cons (.kO hr.2.1) (.cons hr.2.2.2 (.nil U))),?_⟩;have aQu:(⟨seen⟩:Array Nat).back?=some b:=by simpa using aNe
        have aG8:jQ.find? (·.born==b)=some e':=by
         rw [<-Array.find?_toList]
         have hf2:jQ.toList.findIdx? (fun e=>e.born==b)=some j:=by
          rw [<-hf];congr 1;funext x;rw [Lz,beq_iff_eq,beq_iff_eq];omega
         obtain⟨hlt,hp,aSB⟩:=List.findIdx?_eq_some_iff_getElem.1 hf2;rw [List.find?_eq_some_iff_getElem]
         have hgj:jQ.toList[j]=e':=by
          have:=aT hlt;rw [this]at he';injection he'
         exact⟨by rw [<-hgj];exact hp,j,hlt,hgj,fun k hk=>by simpa using aSB k hk⟩
        simp only [Instr.entry,getObj,cP,Sem.run,h4,hb,Result.andThen,aQu,bne_self_eq_false,Fx,if_false,aG8];rw [hr.1];rfl
       ·cases hk
      | _=>cases hk
   | _=>cases hk
 ·cases hk
theorem UU{t as xT:TypeId}{v:Value}{d:TypeDesc}{ok:Bool} (hd:P.underlying as=some d) (hi:∀ms,d≠ .interface ms) (ht:t=as):
 (Instr.typeAssert (.iface t v) xT as ok).run P w= .ok (if ok then .tuple #[v,.bool true]else v) w:=by
 subst ht;simp only [Instr.typeAssert,cP,run_underlying hd,eI];cases d<;>first | exact bC rfl (hi _) | (cases ok<;>simp)
end maps
section app
variable{P:Program}{w0:World}{U:Rn}{S:St}{w:World}
theorem Cm (h:Rel P w0 U S w){size n:Nat}{x x':Value}{k:List Value->Bool} (hk:NU S size n x k=true) (hx:VR U x x'):
 ∃cs cs',k cs=true/\lR U cs cs'/\cs'.length=n*size/\(Builtin.firstCells size n x').run P w= .ok ⟨cs'⟩ w/\(Builtin.firstCells size n x').run P w.drew= .ok ⟨cs'⟩ w.drew:=by
 unfold NU at hk;split at hk
 ·cases hx.of_flat rfl
  split at hk
  ·exact⟨_,[],hk,.nil U,by simp,rfl,rfl⟩
  ·cases hk
 ·rename_i i o sp len c
  split at hk
  ·rcases hx.mV with ⟨L,c',hL,rfl,_⟩ | ⟨⟨s1,h1⟩,rfl,rfl,a,c',rfl⟩
   ·exact⟨_,[],hk,.nil U,by simp,by simp [Builtin.firstCells,loadCells,loadCellsFrom],by simp [Builtin.firstCells,loadCells,loadCellsFrom]⟩
   ·exact⟨_,[],hk,.nil U,by simp,by simp [Builtin.firstCells,loadCells,loadCellsFrom],by simp [Builtin.firstCells,loadCells,loadCellsFrom]⟩
  ·rename_i n
   split at hk
   ·cases hk
   ·rename_i BA
    rcases hx.mV with ⟨L,c',hL,rfl,_⟩ | ⟨⟨s1,h1⟩,rfl,rfl,a,c',rfl⟩
    ·obtain⟨vs,e',ck,ho,hle,hk⟩:=FK hk
     obtain⟨l',Qw,hlen,hc⟩:=h.JT ho hL hle;exact⟨_,l',hk,Qw,hlen,run_loadCells (P:=P) _ l' hlen hc,run_loadCells (P:=P) (w:=w.drew) _ l' hlen hc⟩
    ·exact bC h1 (BA s1)
 ·rename_i s
  cases hx.of_flat rfl;split at hk
  ·rw [GZ]at hk
   split at hk
   ·rename_i hle
    rw [Vu]at hk
    have hd:((s.extract 0 n).data.map fun b=>Value.int .u8 (b.toNat:Int))=⟨(s.data.toList.take n).map fun b=>Value.int .u8 (b.toNat:Int)⟩:=by
     apply Array.toList_inj.1;simp
    refine⟨_,_,hk,.flat (by intro v hv;obtain⟨b,_,rfl⟩:=List.mem_map.1 hv;rfl),by simp at hle ⊢;omega,?_,?_⟩
    ·simp only [Builtin.firstCells,kJ];rw [hd]
    ·simp only [Builtin.firstCells,kJ];rw [hd]
   ·cases hk
  ·cases hk
 ·cases hk
theorem Ic{x x':Value}{k:Nat->Bool} (hk:RZ x k=true) (hx:VR U x x'):∃n,k n=true/\(∀w,(Builtin.lenOf x').run P w= .ok n w)/\∀size w,(Builtin.firstCells size 0 x').run P w= .ok #[] w:=by
 unfold RZ at hk;split at hk
 ·rename_i n c
  have f0:∀(a:Addr) (n c size:Nat) (w:World),(Builtin.firstCells size 0 (.slice (some a) n c)).run P w= .ok #[] w:=fun a n c size w=>by simp [Builtin.firstCells,loadCells,loadCellsFrom]
  cases hx with
  | flat hf=>
   rename_i base;cases base with
   | none=>exact⟨n,hk,fun w=>rfl,fun _ w=>rfl⟩
   | some a=>simp [bY]at hf
  | slice _=>exact⟨n,hk,fun w=>rfl,fun _ w=>f0 _ _ _ _ w⟩
  | rM _ _ _ _ _=>exact⟨n,hk,fun w=>rfl,fun _ w=>f0 _ _ _ _ w⟩
  | DH=>exact⟨_,hk,fun w=>rfl,fun _ w=>f0 _ _ _ _ w⟩
  | DI _=>exact⟨_,hk,fun w=>rfl,fun _ w=>f0 _ _ _ _ w⟩
 ·rename_i s
  cases hx.of_flat rfl;rw [nY]at hk;exact⟨_,hk,fun w=>rfl,fun _ w=>by simp [Builtin.firstCells]⟩
 ·cases hk
theorem Th{d:Option TypeDesc} (h:Rc d=true):(∃e,d=some (.slice e))\/d=some .string:=by
 unfold Rc at h;split at h
 ·exact .inl ⟨_,rfl⟩
 ·exact .inr rfl
 ·cases h
section runs
variable{ts:Array TypeId}{ty t tx e:TypeId}{i:TypeInfo}{z:Value}{base:Option Addr}{sLen sCap n:Nat}{x:Value}{news olds:List Value}{w1:World}
theorem QP (h0:ts[0]? =some t) (h1:ts[1]? =some tx) (ht:P.underlying t=some (.slice e)) (hx:Rc (P.underlying tx)=true) (hi:P.info? e=some i)
 (hlen:∀w,(Builtin.lenOf x).run P w= .ok n w) (Id:sLen+n<=sCap) (hc:(Builtin.firstCells i.size n x).run P w= .ok ⟨news⟩ w)
 (hst:∀a,base=some a->(storeCells (a.add (sLen*i.size)) news).run P w= .ok () w1) (xL:base=none->w1=w):
 (Builtin.append_ ts ty #[.slice base sLen sCap,x]).run P w= .ok (.slice base (sLen+n) sCap) w1:=by
 rcases Th hx with ⟨e',hx⟩ | hx
 all_goals cases base with
  | none=>cases xL rfl;simp [Builtin.append_,h0,h1,run_underlying ht,run_underlying hx,sizeOf,typeInfo,hi,hlen,Id,hc]
  | some a=>simp [Builtin.append_,h0,h1,run_underlying ht,run_underlying hx,sizeOf,typeInfo,hi,hlen,Id,hc,hst a rfl]
theorem QQ (h0:ts[0]? =some t) (h1:ts[1]? =some tx) (ht:P.underlying t=some (.slice e)) (hx:Rc (P.underlying tx)=true) (hi:P.info? e=some i) (hz:i.zero=some z)
 (hlen:∀w,(Builtin.lenOf x).run P w= .ok n w) (Id:sCap<sLen+n) (Ax:((sLen+n)*i.bytes<=140737488355328/\(sLen+n)<=140737488355328)) (hold:(Builtin.firstCells i.size sLen (.slice base sLen sCap)).run P w.drew= .ok ⟨olds⟩ w.drew)
 (hc:(Builtin.firstCells i.size n x).run P w.drew= .ok ⟨news⟩ w.drew):
 (Builtin.append_ ts ty #[.slice base sLen sCap,x]).run P w= .ok (.slice (some ⟨w.heap.size,0,none⟩) (sLen+n) (grownCap w (sLen+n) sCap e))
  (w.drew.alloc (.cells ⟨(olds++news)++(List.replicate (grownCap w (sLen+n) sCap e-(sLen+n)) z.cells.toList).flatten⟩ e)):=by
 have hn:¬(sLen+n<=sCap):=by omega
 have hb:(sLen+n)*i.bytes<=140737488355328:=Ax.1;have MP:sLen+n<=140737488355328:=Ax.2;have aSC:¬(9223372036854775807<((sLen:Int)+(n:Int))):=by omega
 have h48:=growslice_fits (bytes:=i.bytes) Id (by omega);have aSD:¬(281474976710656<Builtin.nextslicecap (sLen+n) sCap*i.bytes):=by omega
 have hzz:∀m,Builtin.zeroCells z.cells m=⟨(List.replicate m z.cells.toList).flatten⟩:=by
  intro m;by_cases oM:z.cells.toList=[]
  ·have:z.cells= #[]:=Array.toList_inj.1 oM
   apply Array.toList_inj.1;simp [Builtin.zeroCells,this]
  ·exact OO z.cells.toList z.cells rfl m oM
 rcases Th hx with ⟨e',hx⟩ | hx<;>
  simp [Builtin.append_,h0,h1,run_underlying ht,run_underlying hx,sizeOf,typeInfo,zeroValue,hi,hz,hlen,hn,aSC,aSD,Question.forced,hc,hold,newRow,grownCap,hzz]
end runs
end app
section app
variable{P:Program}{w0:World}{U:Rn}{S:St}{w:World}
theorem Rel.uD (h:Rel P w0 U S w){b:Nat}{vs:List Value}{e:TypeId}{olds:List Nat} (ho:S.obj b=some (.cells vs e (.grown olds))):Rel P w0 U (S.set b (.cells vs e .uD)) w:=by
 have DK:∀j x,(S.set b (.cells vs e .uD)).obj j=some x->(j=b/\x= .cells vs e .uD)\/(j≠b/\S.obj j=some x):=fun j x hx=>by
  rw [GM]at hx;by_cases e:j=b
  ·rw [aO e]at hx;injection hx with hx;exact .inl ⟨e,hx.symm⟩
  ·rw [aG e]at hx;exact .inr ⟨e,hx⟩
 have hsh:∀(j:Nat) (y:jB),y.BL=false->S.obj j=some y->aG9 b j (.cells vs e (.grown olds)) y->y.reads=true:=by
  intro j y hd hy hs;rcases hs with ⟨h1,_⟩ | h1 | h1
  ·cases h1
  ·obtain⟨_,h2⟩:=h.old b vs e olds ho j h1
   rcases h2 y hy with h3 | ⟨ws,t',h3,_⟩
   ·rw [h3]at hd;cases hd
   ·rw [h3];rfl
  ·cases y with
   | cells us t k=>
    cases k with
    | grown l=>
     obtain⟨_,h2⟩:=h.old j us t l hy b h1;rcases h2 _ ho with h3 | ⟨ws,t',h3,_⟩
     ·cases h3
     ·injection h3 with _ _ h3;cases h3
    | _=>cases h1
   | _=>cases h1
 refine⟨h.Mm,fun j x hx=>?_,h.dom,fun j x hx=>?_,h.loc,fun i j x y L M Ri hx hy hdx hdy hL hM hb=>?_,fun j us t l hj i hi=>?_,h.base⟩
 ·rcases DK j x hx with ⟨rfl,rfl⟩ | ⟨_,hx⟩
  ·obtain⟨L,cs,t,fz,h1,h2,h3,h4⟩:=h.NX _ _ ho
   exact⟨L,cs,t,fz,h1,h2,h3,h4.1,h4.2.2.2⟩
  ·exact h.NX j x hx
 ·rcases DK j x hx with ⟨rfl,_⟩ | ⟨_,hx⟩
  ·exact h.lt _ _ ho
  ·exact h.lt j x hx
 ·rcases DK i x hx with ⟨e1,e2⟩ | ⟨e1,TQ⟩<;>rcases DK j y hy with ⟨f1,f2⟩ | ⟨f1,hy1⟩
  ·exact bC (e1.trans f1.symm) Ri
  ·subst e1 e2
   exact .inl ⟨rfl,hsh j y hdy hy1 (h.sep i j _ y L M Ri ho hy1 rfl hdy hL hM hb)⟩
  ·subst f1 f2
   have:=h.sep j i _ x M L (aP Ri) ho TQ rfl hdx hM hL hb.symm;exact .inl ⟨hsh i x hdx TQ this,rfl⟩
  ·exact h.sep i j x y L M Ri TQ hy1 hdx hdy hL hM hb
 ·rcases DK j _ hj with ⟨_,e2⟩ | ⟨e1,hj⟩
  ·injection e2 with _ _ e2;cases e2
  ·obtain⟨h1,h2⟩:=h.old j us t l hj i hi
   refine⟨h1,fun x hx=>?_⟩;rcases DK i x hx with ⟨rfl,rfl⟩ | ⟨_,hx⟩
   ·rcases h2 _ ho with h3 | ⟨ws,t',h3,_⟩
    ·cases h3
    ·injection h3 with _ _ h3;cases h3
   ·exact h2 x hx
theorem Rel.aQv (h:Rel P w0 U S w){b:Nat}{L:Loc} (hL:U b=some L){vs:List Value}{e:TypeId} (ho:S.obj b=some (.cells vs e .uD)){olds:List Nat}
 (holds:∀i∈olds,i<S.n/\∀x,S.obj i=some x->aAm U b vs i x)
 (Vx:∀j x M,S.obj j=some x->x.BL=false->U j=some M->M.b=L.b->j=b\/j∈olds)
 {cs cs':Array Value} {t:TypeId} {fz:Nat×Nat} (hb:w.heap[L.b]? =some (.cells cs t fz)) (hsz:cs'.size=cs.size) (SG:∀j,j<L.s+vs.length->cs'[j]? =cs[j]?)
 {e2:TypeId} {s2:Nat} {new:List Value} (hlen:L.s+vs.length<=s2+new.length) (Vp:∀(j:Nat) (v:Value),new[j]? =some v->∃v',cs'[s2+j]? =some v'/\VR U v v')
 (hfz:Mp cs.size fz) (hLe:L.e=cs.size) (hm:cM P e2=some L.m) (he2:e=e2) (CA:w0.heap.size<=L.b):
 Rel P w0 (U.put S.n ⟨L.b,s2,L.e,L.m⟩) (S.new (.cells new e2 (.grown (b::olds)))) (w.putObj L.b (.cells cs' t fz))/\xV U w (U.put S.n ⟨L.b,s2,L.e,L.m⟩) (w.putObj L.b (.cells cs' t fz)):=by
 have SH:=h.dom S.n (bQ _);have he:Ext U (U.put S.n ⟨L.b,s2,L.e,L.m⟩):=Rn.QR SH;have Cn:=QS (w:=w) (x:= .cells cs' t fz) hb
 have vQ:∀j M,U.put S.n ⟨L.b,s2,L.e,L.m⟩ j=some M->(j=S.n/\M=⟨L.b,s2,L.e,L.m⟩)\/(j≠S.n/\U j=some M):=fun j M hj=>by
  unfold Rn.put at hj;by_cases e:j=S.n
  ·rw [aO e]at hj;injection hj with hj;exact .inl ⟨e,hj.symm⟩
  ·rw [aG e]at hj;exact .inr ⟨e,hj⟩
 have uS:∀j x,(S.new (.cells new e2 (.grown (b::olds)))).obj j=some x->(j=S.n/\x= .cells new e2 (.grown (b::olds)))\/(j≠S.n/\S.obj j=some x):=fun j x hx=>by
  rw [XH]at hx;by_cases e:j=S.n
  ·rw [aO e]at hx;injection hx with hx;exact .inl ⟨e,hx.symm⟩
  ·rw [aG e]at hx;exact .inr ⟨e,hx⟩
 have aNQ:=h.lt b _ ho
 have hte:t=e2:=by
  obtain⟨L',cs0,t0,fz0,k1,k2,_,k4⟩:=h.NX b _ ho;rw [hL]at k1;injection k1 with k1;subst k1;rw [hb]at k2;injection k2 with k2;injection k2 with _ k2 _;rw [k2,<-he2];exact k4.2.2
 refine⟨⟨fun g hg=>let⟨M,h1,h2⟩:=h.Mm g hg;⟨M,he _ _ h1,h2⟩,fun j x hx=>?_,fun j hj=>?_,fun j x hx=>?_,fun j M hj=>?_,fun i j x y M N Ri hx hy hdx hdy hM hN Rg=>?_,fun j us t' l hj i hi=>?_,?_⟩,he,⟨by rw [putObj_size];omega,fun c _ hc=>yP (aP (hc b L hL))⟩,fun j M hj=>?_⟩
 ·rcases uS j x hx with ⟨rfl,rfl⟩ | ⟨e1,TQ⟩
  ·refine⟨_,cs',t,fz,Rn.mQ _ _ _,Cn,fun j v hj=>?_,CA,by rw [hsz];exact hfz,by rw [hsz];exact hLe,hm,hte⟩
   obtain⟨v',h1,h2⟩:=Vp j v hj;exact⟨v',h1,h2.mono he⟩
  ·cases hd:x.BL with
   | true=>cases x<;>first | trivial | cases hd
   | false=>
    obtain⟨M,hM⟩:=(h.NX j x TQ).loc hd;by_cases hMb:M.b=L.b
    ·
      have aAn:∃ws e',x= .cells ws e' .uD/\M.s+ws.length<=L.s+vs.length:=by
       rcases Vx j x M TQ hd hM hMb with e2 | Qx
       ·subst e2
        rw [ho]at TQ;injection TQ with TQ;rw [hL]at hM;injection hM with hM;subst hM;exact⟨vs,e,TQ.symm,bQ _⟩
       ·rcases(holds j Qx).2 x TQ with h3 | ⟨ws,e',h3,h4⟩
        ·rw [h3]at hd;cases hd
        ·exact⟨ws,e',h3,h4 L M hL hM hMb⟩
      obtain⟨ws,e',rfl,hle⟩:=aAn;obtain⟨M',cs0,t0,fz0,h1,h2,h3,h4⟩:=h.NX j _ TQ;rw [hM]at h1;injection h1 with h1;subst h1;rw [hMb,hb]at h2;injection h2 with h2;injection h2 with h2 h2a h2b;subst h2 h2a h2b;refine⟨M,cs',t,fz,he _ _ hM,by rw [hMb];exact Cn,fun q v hq=>?_,h4⟩;obtain⟨v',g1,g2⟩:=h3 q v hq;have hql:q<ws.length:=(List.getElem?_eq_some_iff.1 hq).1;exact⟨v',(SG _ (by omega)).trans g1,g2.mono he⟩
    ·exact(h.NX j x TQ).frame he fun M' EM=>by rw [hM]at EM;injection EM with EM;subst EM;exact yP hMb
 ·have Vy:S.n+1<=j:=hj
  unfold Rn.put;rw [aG (by omega)];exact h.dom j (by omega)
 ·rcases uS j x hx with ⟨e1,_⟩ | ⟨_,TQ⟩
  ·subst e1;exact xN _
  ·exact sD (h.lt j x TQ)
 ·rw [putObj_size]
  rcases vQ j M hj with ⟨_,rfl⟩ | ⟨_,hM⟩
  ·exact h.loc b L hL
  ·exact h.loc j M hM
 ·rcases uS i x hx with ⟨e1,e2⟩ | ⟨e1,TQ⟩<;>rcases uS j y hy with ⟨f1,f2⟩ | ⟨f1,hy1⟩
  ·exact bC (e1.trans f1.symm) Ri
  ·rcases vQ i M hM with ⟨_,rfl⟩ | ⟨e3,_⟩
   ·rcases vQ j N hN with ⟨f3,_⟩ | ⟨_,hN1⟩
    ·exact bC f3 f1
    ·rw [e2]
     rcases Vx j y N hy1 hdy hN1 Rg.symm with h5 | h5
     ·exact .inr (.inl (by rw [h5];exact .head _))
     ·exact .inr (.inl (.tail _ h5))
   ·exact bC e1 e3
  ·rcases vQ j N hN with ⟨_,rfl⟩ | ⟨f3,_⟩
   ·rcases vQ i M hM with ⟨e3,_⟩ | ⟨_,hM1⟩
    ·exact bC e3 e1
    ·rw [f2]
     rcases Vx i x M TQ hdx hM1 Rg with h5 | h5
     ·exact .inr (.inr (by rw [h5];exact .head _))
     ·exact .inr (.inr (.tail _ h5))
   ·exact bC f1 f3
  ·rcases vQ i M hM with ⟨e3,_⟩ | ⟨_,hM1⟩
   ·exact bC e3 e1
   ·rcases vQ j N hN with ⟨f3,_⟩ | ⟨_,hN1⟩
    ·exact bC f3 f1
    ·exact h.sep i j x y M N Ri TQ hy1 hdx hdy hM1 hN1 Rg
 ·rcases uS j _ hj with ⟨e1,e2⟩ | ⟨e1,hj1⟩
  ·injection e2 with e2 e3 e4
   injection e4 with e4;subst e1 e2 e4
   have hib:i<S.n/\∀x,S.obj i=some x->aAm U b vs i x:=by
    rcases List.mem_cons.1 hi with h5 | h5
    ·subst h5
     refine⟨aNQ,fun x hx=> .inr ⟨vs,e,?_,?_⟩⟩
     ·rw [ho]at hx;injection hx with hx;exact hx.symm
     ·intro L1 M1 g1 g2 _;rw [g1]at g2;injection g2 with g2;subst g2;exact bQ _
    ·exact holds i h5
   refine⟨sD hib.1,fun x hx=>?_⟩;rcases uS i x hx with ⟨e5,_⟩ | ⟨e5,TQ⟩
   ·exact bC e5 (by have:=hib.1;omega)
   ·rcases hib.2 x TQ with h6 | ⟨ws,e',h6,h7⟩
    ·exact .inl h6
    ·refine .inr ⟨ws,e',h6,fun L1 M1 g1 g2 gb=>?_⟩
     rcases vQ _ _ g1 with ⟨_,rfl⟩ | ⟨g3,_⟩
     ·rcases vQ _ _ g2 with ⟨g4,_⟩ | ⟨_,g4⟩
      ·exact bC g4 e5
      ·have:=h7 L M1 hL g4 gb
       simp only;omega
     ·exact bC rfl g3
  ·obtain⟨h1,h2⟩:=h.old j us t' l hj1 i hi
   refine⟨sD h1,fun x hx=>?_⟩;rcases uS i x hx with ⟨e3,_⟩ | ⟨e3,TQ⟩
   ·omega
   ·rcases h2 x TQ with h3 | ⟨ws,e',h3,h4⟩
    ·exact .inl h3
    ·refine .inr ⟨ws,e',h3,fun L1 M1 g1 g2 gb=>?_⟩
     rcases vQ _ _ g1 with ⟨g3,_⟩ | ⟨_,g3⟩
     ·exact bC g3 e1
     ·rcases vQ _ _ g2 with ⟨g5,_⟩ | ⟨_,g5⟩
      ·exact bC g5 e3
      ·exact h4 L1 M1 g3 g5 gb
 ·exact⟨h.base.os,h.base.tape,h.base.output,by rw [putObj_size];exact h.base.size,fun k hk=>(yP (by omega)).trans (h.base.block k hk)⟩
 ·rcases vQ j M hj with ⟨_,rfl⟩ | ⟨_,hM⟩
  ·exact .inr (.inr ⟨b,L,hL,rfl⟩)
  ·exact .inl hM
end app
section app
variable{P:Program}{w0:World}{U:Rn}{S:St}{w:World}
theorem Ie{t e:TypeId} (h:isSlice P t=some e):P.underlying t=some (.slice e):=gJ h
theorem aHa (n:Nat) (z:List Value){m:Nat} (h:z.length=m):(List.replicate n z).flatten.length=n*m:=by simp [h]
theorem Rel.fresh (h:Rel P w0 U S w){cs cs' zl:List Value} (wK:lR U cs cs'){tZ size g:Nat}{elem:TypeId} (hl:cs'.length=tZ*size) (hm:cM P elem=some size) (hz:zl.length=size) (IE:0<size) (hg:tZ<=g){olds:List Nat}
 (hold:∀i∈olds,i<S.n/\∀x,S.obj i=some x->x= .dead\/∃ws e,x= .cells ws e .uD):
 ∃U',VR U' (.slice (some ⟨S.n,0,some 0⟩) tZ tZ) (.slice (some ⟨w.heap.size,0,none⟩) tZ g)/\Rel P w0 U' (S.new (.cells cs elem (.grown olds))) (w.drew.alloc (.cells ⟨cs'++(List.replicate (g-tZ) zl).flatten⟩ elem))/\
  xV U w U' (w.drew.alloc (.cells ⟨cs'++(List.replicate (g-tZ) zl).flatten⟩ elem)):=by
 obtain⟨r1,r2⟩:=h.drew.aAg (more:=(List.replicate (g-tZ) zl).flatten) wK elem hm (0,0) (by intro x _;omega) olds hold;have hL:=Rn.mQ U S.n ⟨w.drew.heap.size,0,(cs'++(List.replicate (g-tZ) zl).flatten).length,size⟩;refine⟨_,?_,r1,(xV.drew U w).trans r2⟩
 have hlen:(cs'++(List.replicate (g-tZ) zl).flatten).length=g*size:=by
  rw [kI,hl,aHa _ _ hz,<-KC]
  congr 1
  omega
 exact VR.rM (o:=0) (n:=tZ) (c:=tZ) (c':=g) hL hg (bQ _) (by simp only [hlen];omega) IE
theorem Vz (h:Rel P w0 U S w){ts:Array TypeId}{ty t tx e:TypeId}{i:TypeInfo}{size:Nat} (h0:ts[0]? =some t) (h1:ts[1]? =some tx) (ht:P.underlying t=some (.slice e)) (Rm:Rc (P.underlying tx)=true) (hi:P.info? e=some i) (SI:i.size=size)
 {base:Option Addr} {sLen sCap n:Nat} {s' _x x':Value} {new new':List Value} {K:VK} (hs:VR U (.slice base sLen sCap) s') (hlen:∀w,(Builtin.lenOf x').run P w= .ok n w) (hn:lR U new new')
 (hc:(Builtin.firstCells size n x').run P w= .ok ⟨new'⟩ w) (Ay:sLen+n<=sCap) (hk:Gg size new base sLen sCap (sLen+n) S K=true):
 ∃U' v S' v' w',K v S'=true/\(Builtin.append_ ts ty #[s',x']).run P w= .ok v' w'/\VR U' v v'/\Rel P w0 U' S' w'/\xV U w U' w':=by
 unfold Gg at hk;split at hk
 ·rename_i b o sp
  split at hk
  ·rename_i BA QK
   rw [bJ]at hk;rw [nD]at QK;have QK:=Co hn (List.all_eq_true.1 QK);rcases hs.mV with ⟨L,c',hL,rfl,aCg⟩ | ⟨⟨_,aHb⟩,_⟩
   ·obtain⟨S',w',hk,r1,r2,fU⟩:=DL h hk hL hn QK
    refine⟨U,_,S',_,w',hk,QP h0 h1 ht Rm hi hlen (by rcases aCg with ⟨_,e⟩ | ⟨_,e,_⟩<;>omega) (by rw [SI];exact hc) (fun a ha=>?_) (fun e=>by cases e),?_,r1,r2⟩
    ·injection ha with ha
     rw [<-ha,rN,SI,uP];exact fU
    ·rcases aCg with ⟨rfl,rfl⟩ | ⟨rfl,e1,e2,e3,e4⟩
     ·exact .slice hL
     ·exact .rM hL e1 Ay e3 e4
   ·rw [aHb]at BA;cases BA
  ·cases hk
 ·cases hk
theorem Ro (h:Rel P w0 U S w){ts:Array TypeId}{ty t tx e:TypeId}{i:TypeInfo}{z:Value}{size:Nat} (h0:ts[0]? =some t) (h1:ts[1]? =some tx) (ht:P.underlying t=some (.slice e)) (Rm:Rc (P.underlying tx)=true) (hi:P.info? e=some i) (SI:i.size=size) (hz:i.zero=some z) (Vt:z.cells.size=size) (IE:0<size)
 {base:Option Addr} {sLen sCap n:Nat} {s' _x x':Value} {new new':List Value} {K:VK} (hs:VR U (.slice base sLen sCap) s') (hlen:∀w,(Builtin.lenOf x').run P w= .ok n w) (hn:lR U new new') (Vq:new'.length=n*size)
 (hc:(Builtin.firstCells size n x').run P w= .ok ⟨new'⟩ w) (hcD:(Builtin.firstCells size n x').run P w.drew= .ok ⟨new'⟩ w.drew) (Ay:¬sLen+n<=sCap) (Ax:((sLen+n)*i.bytes<=140737488355328/\(sLen+n)<=140737488355328))
 (hk:Ce P e size new base sLen (sLen+n) S K=true):
 ∃U' v S' v' w',K v S'=true/\(Builtin.append_ ts ty #[s',x']).run P w= .ok v' w'/\VR U' v v'/\Rel P w0 U' S' w'/\xV U w U' w':=by
 have hm:cM P e=some size:=by unfold cM;rw [hi];simp [SI]
 have Ky:z.cells.toList.length=size:=by simpa using Vt
 subst SI;unfold Ce at hk;split at hk
 ·
   cases hs.of_flat rfl;split at hk
   ·simp only [SC,nF,jF,Ab]at hk
    rw [eJ]at hk Ay Ax;have fU:=QQ (w:=w) (ty:=ty) (base:=none) (sLen:=0) (sCap:=sCap) (olds:=[]) h0 h1 ht Rm hi hz hlen (by omega) (by rw [eJ];exact Ax) rfl hcD;rw [eJ,Ab]at fU;obtain⟨U',r0,r1,r2⟩:=h.fresh hn Vq hm Ky IE (grownCap_ge w n sCap e) (olds:=[]) (by simp);exact⟨U',_,_,_,_,hk,fU,r0,r1,r2⟩
   ·cases hk
 ·
   rename_i b o;rcases hs.mV with ⟨L,c',hL,rfl,⟨_,rfl⟩ | ⟨BA,_⟩⟩ | ⟨⟨_,BA⟩,_⟩
   ·obtain⟨vs,e',ck,ho,hle,hk⟩:=FK hk
    obtain⟨aHc,Qw,hol,hcell⟩:=h.JT ho hL hle;simp only [SC,nF,jF]at hk;have fU:=QQ (w:=w) (ty:=ty) (base:=some ⟨L.b,L.s+o,none⟩) (sLen:=sLen) (sCap:=c') (olds:=aHc) h0 h1 ht Rm hi hz hlen (by omega) Ax (run_loadCells (w:=w.drew) _ aHc hol hcell) hcD;obtain⟨U',r0,r1,r2⟩:=h.fresh (Qw.append hn) (by rw [kI,hol,Vq,<-KC]) hm Ky IE (grownCap_ge w (sLen+n) c' e) (olds:=[]) (by simp);exact⟨U',_,_,_,_,hk,fU,r0,r1,r2⟩
   ·cases BA
   ·cases BA
 ·
   rename_i b o;rcases hs.mV with ⟨L,c',hL,rfl,⟨BA,_⟩ | ⟨_,hcc,hnc,Rp,hmp⟩⟩ | ⟨⟨_,BA⟩,_⟩
   ·cases BA
   ·obtain⟨vs,e',ck,ho,hk⟩:=HB hk
    rw [nY]at hk;split at hk
    ·rename_i olds q aSE hq
     have hvl:=dH aSE;split at hk
     ·rename_i hqs QK hel
      have hqs:=dH hqs;subst hqs;have hel:=dH hel;rw [nD]at QK;have QK:=Co hn (List.all_eq_true.1 QK);obtain⟨vs2,e2,ck2,BN,hle,hk⟩:=FK hk;rw [ho]at BN;injection BN with BN;injection BN with q1 q2 q3;subst q1 q2;obtain⟨aHc,Qw,hol,hcell⟩:=h.JT ho hL hle;simp only [SC,nF,jF,gU]at hk;obtain⟨cs,t',fz,hb,hcv,CA,aNf,hLe,hLm,_⟩:=h.cells ho hL;have hLm:L.m=i.size:=by rw [hq]at hLm;injection hLm with hLm;exact hLm.symm
      have hst:=h.uD ho;have hob:(S.set b (.cells vs e' .uD)).obj b=some (.cells vs e' .uD):=by rw [GM,aO rfl]
      have aNQ:=h.lt b _ ho
      have holds:∀q∈olds,q<S.n/\∀y,(S.set b (.cells vs e' .uD)).obj q=some y->aAm U b vs q y:=by
       intro q hq;obtain⟨g1,g2⟩:=h.old b vs e' olds ho q hq;refine⟨g1,fun y hy=>?_⟩;rw [GM]at hy;split at hy
       ·rename_i eq
        rcases g2 _ (eq▸ho)with g3 | ⟨ws,u,g3,_⟩
        ·cases g3
        ·injection g3 with _ _ g3;cases g3
       ·exact g2 y hy
      by_cases Id:sLen+n<=c'
      ·
        have aQw:L.s+o+sLen*i.size+new'.length<=cs.size:=by
         rw [Vq,uP,<-KC,<-hLe];rw [hLm]at Rp;have:=QD i.size Id;omega
        have hsc:=DM (P:=P) new' w L.b (L.s+o+sLen*i.size) 0 cs t' fz hb (by simpa using aQw) (fun x TQ Wa=>aNf x (by simp at TQ Wa;omega)) QK;simp only [UH]at hsc;have aSF:cs.toList.length=cs.size:=rfl
        have Cn:∀j:Nat,(⟨bA (L.s+o+sLen*i.size) new' cs.toList⟩:Array Value)[j]? =if L.s+o+sLen*i.size<=j/\j<L.s+o+sLen*i.size+new'.length then new'[j-(L.s+o+sLen*i.size)]? else cs[j]? :=by
         intro j;have:=sF (L.s+o+sLen*i.size) new' cs.toList (by omega) j;simpa using this
        obtain⟨r1,r2⟩:=hst.aQv (S:=S.set b (.cells vs e' .uD)) hL hob (olds:=olds) holds
         (fun j y M hy hd hM hMb=>by
          rw [GM]at hy;split at hy
          ·rename_i eq;exact .inl eq
          ·rename_i eq
           rcases h.sep b j _ y L M (aP eq) ho hy rfl hd hL hM hMb.symm with ⟨g1,_⟩ | g1 | g1
           ·cases g1
           ·exact .inr g1
           ·cases y with
            | cells us u kk=>
             cases kk with
             | grown l=>
              obtain⟨_,g2⟩:=h.old j us u l hy b g1;rcases g2 _ ho with g3 | ⟨ws,u',g3,_⟩
              ·cases g3
              ·injection g3 with _ _ g3;cases g3
             | _=>cases g1
            | _=>cases g1)
         (cs':=⟨bA (L.s+o+sLen*i.size) new' cs.toList⟩) hb (by show(bA _ _ _).length=_;rw [GJ _ _ _ (by omega)];exact aSF)
         (fun j hj=>by rw [Cn,aG (by omega)]) (e2:=e) (s2:=L.s+o) (new:=(vs.drop o).take (sLen*i.size)++new)
         (by
          have:=Qw.1;rw [kI];omega)
         (fun j v hj=>by
          have aQx:((vs.drop o).take (sLen*i.size)).length=sLen*i.size:=by rw [Qw.1,hol]
          rw [List.getElem?_append]at hj;rw [Cn];split at hj
          ·rename_i hlt
           rw [aQx]at hlt;rw [aG (by omega)];rw [sC,aO hlt,qY]at hj;rw [uP];exact hcv _ _ hj
          ·rename_i hlt
           rw [aQx]at hlt hj;have hjl:=(List.getElem?_eq_some_iff.1 hj).1;have:=hn.1;rw [aO (by omega),show L.s+o+j-(L.s+o+sLen*i.size)=j-sLen*i.size by omega];exact hn.get hj)
         aNf hLe (by rw [hLm];exact hm) hel CA
        refine⟨_,_,_,_,_,hk,QP (w1:=w.putObj L.b (.cells ⟨bA (L.s+o+sLen*i.size) new' cs.toList⟩ t' fz)) h0 h1 ht Rm hi hlen Id hc (fun a ha=>?_) (fun e=>by cases e),?_,r1,?_⟩
        ·injection ha with ha
         rw [<-ha,rN];exact hsc
        ·have hL2:=Rn.mQ U S.n ⟨L.b,L.s+o,L.e,L.m⟩
         exact VR.rM (o:=0) (n:=sLen+n) (c:=sLen+n) (c':=c') hL2 Id (bQ _) Rp hmp
        ·exact r2
      ·
        have fU:=QQ (w:=w) (ty:=ty) (base:=some ⟨L.b,L.s+o,none⟩) (sLen:=sLen) (sCap:=c') (olds:=aHc) h0 h1 ht Rm hi hz hlen (by omega) Ax (run_loadCells (w:=w.drew) _ aHc hol hcell) hcD
        obtain⟨U',r0,r1,r2⟩:=hst.fresh (S:=S.set b (.cells vs e' .uD)) (Qw.append hn) (by rw [kI,hol,Vq,<-KC]) hm Ky IE (grownCap_ge w (sLen+n) c' e) (olds:=b::olds)
         (fun q hq=>by
          rcases List.mem_cons.1 hq with rfl | hq
          ·refine⟨aNQ,fun y hy=>?_⟩
           rw [hob]at hy;injection hy with hy;exact .inr ⟨vs,e',hy.symm⟩
          ·obtain⟨g1,g2⟩:=holds q hq
           refine⟨g1,fun y hy=>?_⟩;rcases g2 y hy with g3 | ⟨ws,u,g3,_⟩
           ·exact .inl g3
           ·exact .inr ⟨ws,u,g3⟩)
        exact⟨U',_,_,_,_,hk,fU,r0,r1,r2⟩
     ·cases hk
    ·cases hk
   ·cases BA
 ·cases hk
theorem Rq (h:Rel P w0 U S w){ts:Array TypeId}{ty:TypeId}{s s' x x':Value}{K:VK} (hk:QJ P ts.toList s x S K=true) (hs:VR U s s') (hx:VR U x x'):
 ∃U' v S' v' w',K v S'=true/\(Builtin.append_ ts ty #[s',x']).run P w= .ok v' w'/\VR U' v v'/\Rel P w0 U' S' w'/\xV U w U' w':=by
 unfold QJ at hk;split at hk
 ·rename_i sT xT rest Mn
  have h0:ts[0]? =some sT:=by have:=jY (·[0]?) Mn;simpa using this
  have h1:ts[1]? =some xT:=by have:=jY (·[1]?) Mn;simpa using this
  split at hk
  ·rename_i elem he Rm
   have ht:=gJ he;split at hk
   ·rename_i info hi
    split at hk
    ·rename_i size z base sLen sCap SI hz
     split at hk
     ·rename_i Vt
      have Vt:=dH Vt;obtain⟨n,hk,hlen,hf0⟩:=Ic (P:=P) hk hx;split at hk
      ·
        split at hk
        ·rename_i hle
         have hle:=cJ hle
         have main:∀Ti c',sLen<=c'->s'= .slice Ti sLen c'->∃U' v S' v' w',K v S'=true/\(Builtin.append_ ts ty #[s',x']).run P w= .ok v' w'/\VR U' v v'/\Rel P w0 U' S' w'/\xV U w U' w':=by
          intro Ti c' hc' e;refine⟨U,_,S,_,w,hk,?_,hs,h,.refl U w⟩;rw [e];exact QP (w1:=w) h0 h1 ht Rm hi hlen (by omega) (hf0 _ w) (fun a _=>by rfl) (fun _=>rfl)
         cases hs with
         | flat _=>exact main _ _ hle rfl
         | slice _=>exact main _ _ hle rfl
         | rM _ _ _ _ _=>exact main _ _ (by omega) rfl
         | DH=>exact main _ _ (by omega) rfl
         | DI _=>exact main _ _ (by omega) rfl
        ·cases hk
      ·obtain⟨new,new',hk,hn,Vq,hc,hcD⟩:=Cm h hk hx
       rw [bJ]at hk;split at hk
       ·rename_i hb
        have hb:=aG1 hb;split at hk
        ·rename_i Ay
         exact Vz (_x:=x) h h0 h1 ht Rm hi SI hs hlen hn hc (cJ Ay) hk
        ·rename_i Ay
         exact Ro (_x:=x) h h0 h1 ht Rm hi SI hz Vt (Nat.succ_pos _) hs hlen hn Vq hc hcD (fun e=>by rw [nO e]at Ay;cases Ay) hb hk
       ·cases hk
     ·cases hk
    ·cases hk
   ·cases hk
  ·cases hk
 ·cases hk
theorem aAo (h:Rel P w0 U S w){ts:Array TypeId}{ty:TypeId}{d d' x x':Value}{K:VK} (hk:Td P ts.toList d x S K=true) (hd:VR U d d') (hx:VR U x x'):
 ∃v S' v' w',K v S'=true/\(Builtin.copy_ ts ty #[d',x']).run P w= .ok v' w'/\VR U v v'/\Rel P w0 U S' w'/\xV U w U w':=by
 unfold Td at hk;split at hk
 ·rename_i dT rest Mn
  have h0:ts[0]? =some dT:=by have:=jY (·[0]?) Mn;simpa using this
  split at hk
  ·rename_i elem he
   have ht:=gJ he;split at hk
   ·rename_i size base aNM aUy SI
    obtain⟨m,hk,hlen,hf0⟩:=Ic (P:=P) hk hx;rw [bJ]at hk;split at hk
    ·rename_i aFs
     refine⟨_,S,.int .i64 0,w,hk,?_,.flat rfl,h,.refl U w⟩
     have main:∀Ti c',(Builtin.copy_ ts ty #[.slice Ti aNM c',x']).run P w= .ok (.int .i64 0) w:=by
      intro Ti c';cases Ti with
      | none=>simp only [Builtin.copy_,List.getElem?_toArray,Ve,ZV,h0,cP,run_underlying ht,eI,hlen,jE SI,aFs,hf0,kJ,goInt];rfl
      | some a=>simp only [Builtin.copy_,List.getElem?_toArray,Ve,ZV,h0,cP,run_underlying ht,eI,hlen,jE SI,aFs,hf0,kJ,goInt];rfl
     cases hd with
     | flat _=>exact main _ _
     | slice _=>exact main _ _
     | rM _ _ _ _ _=>exact main _ _
     | DH=>exact main _ _
     | DI _=>exact main _ _
    ·rename_i n' aFs
     obtain⟨new,new',hk,hn,Vq,hc,hcD⟩:=Cm h hk hx;split at hk
     ·rename_i i o sp
      split at hk
      ·rename_i BA QK
       rw [nD]at QK;have QK:=Co hn (List.all_eq_true.1 QK);rcases hd.mV with ⟨L,c',hL,rfl,_⟩ | ⟨⟨_,aHb⟩,_⟩
       ·obtain⟨S',w',hk,r1,r2,fU⟩:=DL h hk hL hn QK
        refine⟨_,S',.int .i64 ((n'+1:Nat):Int),w',hk,?_,.flat rfl,r1,r2⟩;simp only [Builtin.copy_,List.getElem?_toArray,Ve,ZV,h0,cP,run_underlying ht,eI,hlen,jE SI,aFs,hc,fU,kJ,goInt]
       ·rw [aHb]at BA;cases BA
      ·cases hk
     ·cases hk
   ·cases hk
  ·cases hk
 ·cases hk
end app
section ops
variable{P:Program}{w0:World}{U:Rn}{S:St}{w:World}
def Out (P:Program) (w0:World) (U:Rn) (w:World) (K:VK) (s:Sem Next):Prop:=
 ∃r U' v S' v' w',K v S'=true/\s.run P w= .ok r w'/\(r= .value v'\/(r= .skip/\v'=undef))/\VR U' v v'/\Rel P w0 U' S' w'/\xV U w U' w'
theorem Out.here (h:Rel P w0 U S w){K:VK}{s:Sem Value}{v v':Value} (hk:K v S=true) (hv:VR U v v') (hr:s.run P w= .ok v' w):Out P w0 U w K (do pure (.value (<-s))):=
 ⟨_,U,v,S,v',w,hk,by rw [cP,hr];rfl,.inl rfl,hv,h,.refl U w⟩
theorem Out.new{K:VK}{s:Sem Value} (h:∃U' v S' v' w',K v S'=true/\s.run P w= .ok v' w'/\VR U' v v'/\Rel P w0 U' S' w'/\xV U w U' w'):Out P w0 U w K (do pure (.value (<-s))):=by
 obtain⟨U',v,S',v',w',hk,hr,hv,h1,h2⟩:=h;exact⟨_,U',v,S',v',w',hk,by rw [cP,hr];rfl,.inl rfl,hv,h1,h2⟩
theorem Out.unit{K:VK}{s:Sem Unit} (h:∃S' w',K undef S'=true/\Rel P w0 U S' w'/\xV U w U w'/\s.run P w= .ok () w'):Out P w0 U w K (do s;pure .skip):=by
 obtain⟨S',w',hk,h1,h2,hr⟩:=h;exact⟨_,U,undef,S',undef,w',hk,by rw [cP,hr];rfl,.inr ⟨rfl,rfl⟩,.tuple rfl (by simp),h1,h2⟩
theorem VR.nat{k:IntKind}{n:Nat}:VR U (.int k (.ofNat n)) (.int k (n:Int)):= .flat rfl
theorem VR.undef:VR U undef undef:= .tuple rfl (by simp)
theorem aCj{ts:Array TypeId}{ty t e:TypeId}{zero:List Value}{n c:Nat}{a:Addr}{w':World} (h0:ts[0]? =some t) (ht:P.underlying t=some (.slice e)) (hz:wY P e=some zero) (hn:n≠0) (oM:zero≠[])
 (hs:(storeCells a (List.replicate n zero).flatten).run P w= .ok () w'):(Builtin.clear_ ts ty #[.slice (some a) n c]).run P w= .ok (.tuple #[]) w':=by
 obtain⟨zv,Gi,Qv⟩:=FJ hz w
 have hzz:Builtin.zeroCells zv.cells n=⟨(List.replicate n zero).flatten⟩:=by
  have:=OO zero zv.cells Qv n oM;have hl:zv.cells.size=zero.length:=by rw [<-Qv];rfl
  unfold Builtin.zeroCells;rw [show n*zv.cells.size=n*zero.length by rw [hl]];exact this
 cases n with
 | zero=>exact bC rfl hn
 | succ n=>simp [Builtin.clear_,h0,run_underlying ht,Gi,hzz,hs]
theorem aFu{ts:Array TypeId}{ty:TypeId}{j:IntKind}{K:Value->Bool}:∀{l l':List Value} {x:Int},YQ false l j x K=true->lR U l l'->∃y,K (.int j y)=true/\∀w,(Builtin.min_ ts ty ⟨.int j x::l'⟩).run P w= .ok (.int j y) w:=by
 intro l;induction l with
 | nil=>intro l' x hk hl;cases hl.kV;exact⟨x,hk,fun w=>by simp [Builtin.min_]⟩
 | cons v l ih=>
  intro l' x hk hl;obtain⟨v',t',rfl,hv,ht⟩:=hl.dN;cases v with
  | int k y=>
   cases hv.of_flat rfl;have hk:gE (Zv y x) (YQ false l j y K) (YQ false l j x K)=true:=hk;rw [UV]at hk;by_cases hlt:y<x
   ·rw [bI hlt]at hk
    obtain⟨z,hz,hr⟩:=ih hk ht;refine⟨z,hz,fun w=>?_⟩;have:=hr w;simp only [Builtin.min_,List.foldlM_cons,Builtin.min2,aO hlt,cP,kJ,eI]at this ⊢;exact this
   ·rw [bO hlt]at hk
    obtain⟨z,hz,hr⟩:=ih hk ht;refine⟨z,hz,fun w=>?_⟩;have:=hr w;simp only [Builtin.min_,List.foldlM_cons,Builtin.min2,aG hlt,cP,kJ,eI]at this ⊢;exact this
  | _=>cases hk
theorem aFv{ts:Array TypeId}{ty:TypeId}{j:IntKind}{K:Value->Bool}:∀{l l':List Value} {x:Int},YQ true l j x K=true->lR U l l'->∃y,K (.int j y)=true/\∀w,(Builtin.max_ ts ty ⟨.int j x::l'⟩).run P w= .ok (.int j y) w:=by
 intro l;induction l with
 | nil=>intro l' x hk hl;cases hl.kV;exact⟨x,hk,fun w=>by simp [Builtin.max_]⟩
 | cons v l ih=>
  intro l' x hk hl;obtain⟨v',t',rfl,hv,ht⟩:=hl.dN;cases v with
  | int k y=>
   cases hv.of_flat rfl;have hk:gE (Zv x y) (YQ true l j y K) (YQ true l j x K)=true:=hk;rw [UV]at hk;by_cases hlt:x<y
   ·rw [bI hlt]at hk
    obtain⟨z,hz,hr⟩:=ih hk ht;refine⟨z,hz,fun w=>?_⟩;have:=hr w;simp only [Builtin.max_,List.foldlM_cons,Builtin.max2,aO hlt,cP,kJ,eI]at this ⊢;exact this
   ·rw [bO hlt]at hk
    obtain⟨z,hz,hr⟩:=ih hk ht;refine⟨z,hz,fun w=>?_⟩;have:=hr w;simp only [Builtin.max_,List.foldlM_cons,Builtin.max2,aG hlt,cP,kJ,eI]at this ⊢;exact this
  | _=>cases hk
theorem Mt (h:Rel P w0 U S w){b:Builtin}{ts:Array TypeId}{ty:TypeId}{cs:Array Bool}{args eV:List Value}{K:VK} (hk:oO P b ts.toList args S K=true) (ha:lR U args eV):
 Out P w0 U w K (builtin b ts ty cs ⟨eV⟩):=by
 unfold oO at hk;split at hk
 ·
   rename_i x;obtain⟨x',t',rfl,hx,ht'⟩:=ha.dN;cases ht'.kV;split at hk
   ·rename_i t rest Mn
    have h0:ts[0]? =some t:=by have:=jY (·[0]?) Mn;simpa using this
    split at hk
    ·rename_i base n c
     split at hk
     ·rename_i e he
      have hu:=gJ he;refine Out.here h hk (v':= .int .i64 (n:Int)) .nat ?_;have main:∀b' c',(Builtin.len_ ts ty ⟨[.slice b' n c']⟩).run P w= .ok (.int .i64 (n:Int)) w:=fun b' c'=>by simp [Builtin.len_,h0,run_underlying hu,goInt]
      cases hx with
      | flat _=>exact main _ _
      | slice _=>exact main _ _
      | rM _ _ _ _ _=>exact main _ _
      | DH=>exact main _ _
      | DI _=>exact main _ _
     ·cases hk
    ·rename_i s
     cases hx.of_flat rfl;split at hk
     ·rename_i hu
      rw [nY]at hk;refine Out.here h hk (v':= .int .i64 (s.data.toList.length:Int)) .nat ?_;simp [Builtin.len_,h0,run_underlying hu,goInt]
     ·cases hk
    ·rename_i r
     split at hk
     ·rename_i q hm
      have hu:=BZ hm;rcases JU hk with ⟨e1,vO⟩ | ⟨r,es,c,e1,ho,vO⟩
      ·rw [e1]at hx
       cases hx.of_flat rfl;exact Out.here h vO (v':= .int .i64 0) (.flat rfl) (by simp [Builtin.len_,h0,run_underlying hu,goInt])
      ·rw [e1]at hx
       obtain⟨L,hL,rfl⟩:=hx.JL;obtain⟨jQ,_,hb,XG⟩:=h.map ho hL;simp only [nY]at vO;refine Out.here h vO (v':= .int .i64 (es.length:Int)) .nat ?_;have hl:jQ.size=es.length:=by rw [XG.1];rfl
       simp [Builtin.len_,h0,run_underlying hu,MapKept.run_getObj_map hb,goInt,hl]
     ·cases hk
    ·split at hk
     ·rename_i n e hu
      exact Out.here h hk (v':= .int .i64 (n:Int)) .nat (by simp [Builtin.len_,h0,run_underlying hu,goInt])
     ·cases hk
    ·cases hk
   ·cases hk
 ·obtain⟨s',t1,rfl,hs,ht1⟩:=ha.dN
  obtain⟨x',t2,rfl,hx,ht2⟩:=ht1.dN;cases ht2.kV;exact Out.new (Rq h hk hs hx)
 ·obtain⟨s',t1,rfl,hs,ht1⟩:=ha.dN
  obtain⟨x',t2,rfl,hx,ht2⟩:=ht1.dN;cases ht2.kV;obtain⟨v,S',v',w',h1,h2,h3,h4,h5⟩:=aAo h hk hs hx;exact Out.new ⟨U,v,S',v',w',h1,h2,h3,h4,h5⟩
 ·obtain⟨s',t1,rfl,hs,ht1⟩:=ha.dN
  obtain⟨x',t2,rfl,hx,ht2⟩:=ht1.dN;cases ht2.kV;obtain⟨S',w',h1,h2,h3,h4⟩:=Rj (t:=ty) h hk hs hx;exact Out.new ⟨U,_,S',_,w',h1,h4,.undef,h2,h3⟩
 ·rename_i j x l
  obtain⟨s',t1,rfl,hs,ht1⟩:=ha.dN;cases hs.of_flat rfl;obtain⟨y,hk,fU⟩:=aFu hk ht1;exact Out.here h hk (.flat rfl) (fU w)
 ·rename_i j x l
  obtain⟨s',t1,rfl,hs,ht1⟩:=ha.dN;cases hs.of_flat rfl;obtain⟨y,hk,fU⟩:=aFv hk ht1;exact Out.here h hk (.flat rfl) (fU w)
 ·
   rename_i x;obtain⟨x',t',rfl,hx,ht'⟩:=ha.dN;cases ht'.kV;split at hk
   ·rename_i t rest Mn
    have h0:ts[0]? =some t:=by have:=jY (·[0]?) Mn;simpa using this
    split at hk
    ·rename_i c he
     have hu:=gJ he;cases hx.of_flat rfl;exact Out.here h hk (v':= .int .i64 (c:Int)) .nat (by simp [Builtin.cap_,h0,run_underlying hu,goInt])
    ·rename_i c he
     have hu:=gJ he;rcases hx.mV with ⟨L,c1,hL,rfl,⟨_,rfl⟩ | ⟨hs,_⟩⟩ | ⟨⟨_,hs⟩,_⟩
     ·exact Out.here h hk (v':= .int .i64 (c1:Int)) .nat (by simp [Builtin.cap_,h0,run_underlying hu,goInt])
     ·cases hs
     ·cases hs
    ·cases hk
   ·cases hk
 ·
   rename_i base n c;obtain⟨s',t1,rfl,hs,ht1⟩:=ha.dN;cases ht1.kV;split at hk
   ·rename_i t rest Mn
    have h0:ts[0]? =some t:=by have:=jY (·[0]?) Mn;simpa using this
    split at hk
    ·rename_i elem he
     have hu:=gJ he;split at hk
     ·rename_i size zero hsz hz
      split at hk
      ·cases hs.of_flat rfl
       exact Out.here h hk .undef (v':= .tuple #[]) (by simp [Builtin.clear_,h0,run_underlying hu])
      ·refine Out.here h hk .undef (v':= .tuple #[]) ?_
       have main:∀b' c',(Builtin.clear_ ts ty ⟨[.slice b' 0 c']⟩).run P w= .ok (.tuple #[]) w:=fun b' c'=>by cases b'<;>simp [Builtin.clear_,h0,run_underlying hu]
       cases hs with
       | flat _=>exact main _ _
       | slice _=>exact main _ _
       | rM _ _ _ _ _=>exact main _ _
       | DH=>exact main _ _
       | DI _=>exact main _ _
      ·rename_i i o sp n
       split at hk
       ·rename_i q BA Ia Ky
        rw [GK]at hk;rw [nD]at Ia;have aQy:∀v∈zero,bY v=true:=List.all_eq_true.1 Ia;have Ky:=dH Ky;have Te:lR U (List.replicate (n+1) zero).flatten (List.replicate (n+1) zero).flatten:=(lR.flat aQy).flatten _;rcases hs.mV with ⟨L,c',hL,rfl,_⟩ | ⟨⟨_,aHb⟩,_⟩
        ·obtain⟨S',w',hk,r1,r2,fU⟩:=DL h hk hL Te (fun v hv=>by
          simp only [List.mem_flatten,List.mem_replicate]at hv;obtain⟨l,⟨_,rfl⟩,hv⟩:=hv;have:=aQy v hv;cases v<;>first | rfl | (simp [bY]at this))
         exact Out.new ⟨U,_,S',_,w',hk,aCj h0 hu hz (by omega) (by intro e;rw [e]at Ky;simp at Ky) fU,.undef,r1,r2⟩
        ·rw [aHb]at BA;cases BA
       ·cases hk
     ·cases hk
    ·cases hk
   ·cases hk
 ·cases hk
end ops
theorem YT{P:Program}{t:TypeId}{i:TypeInfo} (h:P.info? t=some i) (w:World):(typeInfo t).run P w= .ok i w:=by
 simp [typeInfo,h]
theorem Rr{P:Program}{t:TypeId}{name:String}{g:FuncId} (h:KE P t name=some g) (x:Value) (w:World):(nilAhead (P.types.size+Made.depth) t x name).run P w= .ok (some false) w:=by
 unfold KE at h;split at h
 ·rename_i info d hi hd
  split at h
  ·rename_i m hm
   split at h
   ·rename_i g' pr hp hf
    have hp:m.path= #[]:=Array.toList_inj.1 (by simpa using hp);have aHf:P.types.size+Made.depth=(P.types.size+99)+1:=rfl;rw [aHf];unfold nilAhead;simp only [cP,YT hi,eI,hm,hp];unfold followBlind;simp only [kJ,eI,hf];cases pr with
    | true=>rfl
    | false=>
     simp only [cP,run_underlying hd,eI];revert h hd;cases d<;>intro hd h<;>first | rfl | cases h
   ·cases h
  ·cases h
 ·cases h
theorem MQ{P:Program}{t:TypeId}{name:String}{g:FuncId} (h:KE P t name=some g) (x:Value) (w:World):
 (do
  if(<-nilAhead ((<-program).types.size+Made.depth) t x name) != some false then
   unsupported (.noEntry "op/nilCheck.the method's receiver behind this interface value is a nil pointer, or cannot be seen to be none, and the arguments act or may panic (ledger 612)")
  pure (.value (.func (.method name) ⟨[.iface t x]⟩ ⟨[]⟩)):Sem Go.Next).run P w= .ok (.value (.func (.method name) ⟨[.iface t x]⟩ ⟨[]⟩)) w:=by
 simp only [cP,run_program,eI,Rr h];rfl
section ops
variable{E:Env}{w0:World}{U:Rn}{S:St}{w:World}
theorem lR.map_toArray{f:Operand->Value}{vs:List Value}{xs:Array Operand} (h:lR U vs (xs.toList.map f)):lR U (⟨vs⟩:Array Value).toList (xs.map f).toList:=by simpa using h
def Quiet (o:Oper):Prop:=∀c,o.op= .call c->∃b,c.callee= .builtin b
theorem aFw (h:Rel E.P w0 U S w){A:bD}{a:Act} (hA:BK E.P U A a){o:Oper} (hq:Quiet o){K:VK} (hk:AN E o A S K=true):Out E.P w0 U w K (execOp a.eval o):=by
 unfold AN at hk;unfold execOp;split at hk<;>rename_i Mu<;>simp only [Mu]
 ·obtain⟨v,hk,hv⟩:=aX h hA hk
  exact⟨_,U,v,S,_,w,hk,rfl,.inl rfl,hv,h,.refl U w⟩
 ·obtain⟨v,hk,hv⟩:=aX h hA hk
  exact⟨_,U,v,S,_,w,hk,rfl,.inl rfl,hv,h,.refl U w⟩
 ·obtain⟨c,hk,hc⟩:=aX h hA hk
  obtain⟨x,hk,hx⟩:=aX h hA hk;obtain⟨y,hk,hy⟩:=aX h hA hk;split at hk
  ·have:=hc.of_flat rfl
   exact⟨_,U,_,S,_,w,hk,by simp [this,asBool],.inl rfl,hx,h,.refl U w⟩
  ·have:=hc.of_flat rfl
   exact⟨_,U,_,S,_,w,hk,by simp [this,asBool],.inl rfl,hy,h,.refl U w⟩
  ·cases hk
 ·exact Out.new (Vs h hk)
 ·obtain⟨v,hk,hv⟩:=aX h hA hk
  exact Out.new (aCf h hk hv)
 ·obtain⟨v,v',hk,hv,hr⟩:=Ci h hA hk
  exact Out.here h hk hv (hr w)
 ·exact Out.new (Cj h hA hk)
 ·obtain⟨x,hk,hx⟩:=aX h hA hk
  obtain⟨v,v',hk,hv,hr⟩:=UW h hk hx;exact Out.here h hk hv hr
 ·obtain⟨x,hk,hx⟩:=aX h hA hk
  obtain⟨y,hk,hy⟩:=aX h hA hk;exact Out.unit (Wb h hk hx hy)
 ·obtain⟨x,hk,hx⟩:=aX h hA hk
  split at hk
  ·rename_i ad
   obtain⟨i,off,sp⟩:=ad;have Wa:=hx;obtain⟨_,L,hL,e⟩:=hx.JJ;rw [e]at Wa ⊢;exact⟨_,U,_,S,_,w,hk,rfl,.inl rfl,Wa,h,.refl U w⟩
  ·rename_i f x1 x2
   generalize hg:a.eval _=v' at hx ⊢;cases hx with
   | flat hf=>simp [bY]at hf
   | func h1 h2 h3 h4=>exact⟨_,U,_,S,_,w,hk,rfl,.inl rfl,.func h1 h2 h3 h4,h,.refl U w⟩
  ·rename_i f x1 x2
   generalize hg:a.eval _=v' at hx ⊢;cases hx with
   | flat hf=>simp [bY]at hf
   | yield h1=>exact⟨_,U,_,S,_,w,hk,rfl,.inl rfl,.yield h1,h,.refl U w⟩
  ·rename_i s t x1
   generalize hg:a.eval _=v' at hx ⊢;cases hx with
   | flat hf=>simp [bY]at hf
   | KJ h1=>
    cases h1 with
    | flat hf=>simp [bY]at hf
    | iface h2=>
     split at hk
     ·rename_i g hm
      exact⟨_,U,_,S,_,w,hk,MQ hm _ w,.inl rfl,.KJ (.iface h2),h,.refl U w⟩
     ·cases hk
  ·rename_i t x1
   generalize hg:a.eval _=v' at hx ⊢;cases hx with
   | flat hf=>simp [bY]at hf
   | iface h1=>exact⟨_,U,_,S,_,w,hk,rfl,.inl rfl,.iface h1,h,.refl U w⟩
  ·cases hk
 ·obtain⟨x,hk,hx⟩:=aX h hA hk
  obtain⟨y,hk,hy⟩:=aX h hA hk;obtain⟨v,hk,hf,hr⟩:=Mv hk hx hy;exact Out.here h hk (.flat hf) (hr _ _ w)
 ·obtain⟨x,hk,hx⟩:=aX h hA hk
  obtain⟨v,hk,hf,hr⟩:=Tk (P:=E.P) hk hx;exact Out.here h hk (.flat hf) (hr w)
 ·obtain⟨x,hk,hx⟩:=aX h hA hk
  exact Out.new (aAf h hk hx)
 ·obtain⟨x,hk,hx⟩:=aX h hA hk
  split at hk
  ·cases hk
  ·rename_i d hd hu
   refine Out.here h hk (.iface hx) ?_;simp only [Instr.makeInterface,cP,run_underlying hu,eI];cases d<;>first | rfl | exact bC hu (hd _)
  ·cases hk
 ·split at hk
  ·obtain⟨x,hk,hx⟩:=BO h hA hk
   obtain⟨y,hk,hy⟩:=BO h hA hk;have hx:=hx.map_toArray;have hy:=hy.map_toArray;exact Out.here h hk (.func hx.1 hy.1 hx.2 hy.2) rfl
  ·split at hk
   ·rename_i x TQ Wa
    obtain⟨v,hk,hv⟩:=aX h hA hk;have e1:=Array.toList_inj.1 (show _=(⟨[x]⟩:Array Operand).toList from TQ);have e2:=Array.toList_inj.1 (show _=(⟨[]⟩:Array Operand).toList from Wa);subst e1 e2;exact Out.here h hk (.KJ hv) (by simp [Instr.makeFunc])
   ·cases hk
  ·cases hk
 ·exact Out.new (UT h hk)
 ·obtain⟨x,hk,hx⟩:=aX h hA hk
  exact Out.new (Mo h hx hk)
 ·obtain⟨x,hk,hx⟩:=aX h hA hk
  exact Out.new (Rk h hk hx)
 ·obtain⟨x,hk,hx⟩:=aX h hA hk
  split at hk
  ·cases hk
  ·obtain⟨v,S',v',w',h1,h2,h3,h4,h5⟩:=aAl (ty:=o.type) h hk hx
   exact Out.new ⟨U,v,S',v',w',h1,h2,h3,h4,h5⟩
 ·obtain⟨x,hk,hx⟩:=aX h hA hk
  obtain⟨v,v',hk,hv,hr⟩:=Vw h hk hx;exact Out.here h hk hv hr
 ·rename_i x xT as ok
  obtain⟨v,hk,hv⟩:=aX h hA hk;split at hk
  ·cases hk
  ·rename_i t u d hni hd
   generalize a.eval x=v' at hv ⊢;cases hv with
   | flat hf=>simp [bY]at hf
   | iface hu=>
    cases hb:Nat.beq t as with
    | false=>rw [hb]at hk;cases ok<;>cases hk
    | true=>
     rw [hb]at hk;have e:=dH hb;cases ok with
     | true=>exact Out.here h hk (.pO (.cons hu (.cons (.flat rfl) (.nil U)))) (UU hd (fun ms e=>hni ms e) e)
     | false=>exact Out.here h hk hu (UU hd (fun ms e=>hni ms e) e)
  ·cases hk
 ·obtain⟨x,hk,hx⟩:=aX h hA hk
  obtain⟨y,hk,hy⟩:=aX h hA hk;exact Out.new (Gj h hk hx hy)
 ·rename_i t x lo hi mx
  have hmh:mx.map a.eval=none\/hi.map a.eval≠none:=by
   cases mx with
   | none=>exact .inl rfl
   | some m=>cases hi with
    | none=>exact bC hk (by simp)
    | some _=>exact .inr (by simp)
  replace hk:(vP A x fun x=>Aq A lo fun lo=>Aq A hi fun hi=>Aq A mx fun mx=>uR E.P t x lo hi mx S fun v=>K v S)=true:=by
   cases mx<;>cases hi<;>first | exact hk | cases hk
  obtain⟨x,hk,hx⟩:=aX h hA hk;obtain⟨lo,hk,hlo⟩:=FM h hA hk;obtain⟨hi,hk,hhi⟩:=FM h hA hk;obtain⟨mx,hk,hmx⟩:=FM h hA hk
  have hO:∀(x:Option Operand) (v:Option Value),(v=none/\x=none\/∃u y,v=some u/\x=some y/\VR U u (a.eval y))->Jr U v (x.map a.eval):=by
   intro x v hv;rcases hv with ⟨rfl,rfl⟩ | ⟨u,y,rfl,rfl,hr⟩
   ·exact .inl ⟨rfl,rfl⟩
   ·exact .inr ⟨u,_,rfl,rfl,hr⟩
  obtain⟨v,v',hk,hv,hr⟩:=Cp h hk hx (hO _ _ hlo) (hO _ _ hhi) (hO _ _ hmx) hmh;exact Out.here h hk hv (hr w)
 ·obtain⟨x,hk,hx⟩:=aX h hA hk
  obtain⟨v,v',hk,hv,hr⟩:=OL hk hx;exact Out.here h hk hv (hr w)
 ·obtain⟨x,hk,hx⟩:=aX h hA hk
  obtain⟨v,v',hk,hv,hr⟩:=Cg hk hx;exact Out.here h hk hv (hr w)
 ·obtain⟨x,hk,hx⟩:=aX h hA hk
  obtain⟨y,hk,hy⟩:=aX h hA hk;obtain⟨v,v',hk,hv,hr⟩:=OK hk hx hy;exact Out.here h hk hv (hr w)
 ·obtain⟨x,hk,hx⟩:=aX h hA hk
  obtain⟨y,hk,hy⟩:=aX h hA hk;obtain⟨v,v',hk,hv,hr⟩:=Ch hk hx hy;exact Out.here h hk hv (hr w)
 ·obtain⟨x,hk,hx⟩:=aX h hA hk
  obtain⟨y,hk,hy⟩:=aX h hA hk;obtain⟨v,v',hk,hv,hr⟩:=YR h hk hx hy;exact Out.here h hk hv hr
 ·obtain⟨x,hk,hx⟩:=aX h hA hk
  obtain⟨y,hk,hy⟩:=aX h hA hk;obtain⟨z,hk,hz⟩:=aX h hA hk;exact Out.unit (OP h hk hx hy hz)
 ·obtain⟨x,hk,hx⟩:=aX h hA hk
  obtain⟨y,hk,hy⟩:=aX h hA hk;obtain⟨z,hk,hz⟩:=aX h hA hk;exact Out.unit (OP h hk hx hy hz)
 ·obtain⟨x,hk,hx⟩:=aX h hA hk
  obtain⟨y,hk,hy⟩:=aX h hA hk;obtain⟨v,S',v',w',hk,hv,r1,r2,hr⟩:=Jq h hk hx hy;exact Out.new ⟨U,v,S',v',w',hk,hr,hv,r1,r2⟩
 ·obtain⟨x,hk,hx⟩:=aX h hA hk
  obtain⟨y,hk,hy⟩:=aX h hA hk;obtain⟨z,hk,hz⟩:=aX h hA hk;exact Out.unit (Cl h hk hx hy hz)
 ·rename_i tt ix
  obtain⟨x,hk,hx⟩:=aX h hA hk;split at hk
  ·obtain⟨vs',e,hl⟩:=hx.OQ
   obtain⟨v,hv,hk⟩:=OM hk;obtain⟨v',ON,hr⟩:=hl.get hv;refine Out.here h hk hr ?_;rw [e];have:vs'[ix]? =some v':=by simpa using ON
   simp [Instr.extract,this]
  ·cases hk
 ·rename_i c
  obtain⟨b,hb⟩:=hq c Mu;unfold nC at hk;obtain⟨args,hk,SJ⟩:=BO h hA hk;rw [hb]at hk;simp only at hk;have:=Mt (ty:=o.type) (cs:=c.args.map fun | .const _=>true | _=>false) h hk SJ;have e:(⟨c.args.toList.map a.eval⟩:Array Value)=c.args.map a.eval:=by apply Array.toList_inj.1;simp
  rw [e]at this
  have e2:(do let d<-resolve a.eval c o.type;invoke d.target d.args:Sem Next)=builtin b c.argTypes o.type (c.args.map fun | .const _=>true | _=>false) (c.args.map a.eval):=by
   unfold resolve;rw [hb];rfl
  rw [e2];exact this
 ·cases hk
end ops
end Go.Am
