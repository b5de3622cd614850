/- AM, an abstract machine for the model's code: its state, its operations, its evaluator: plain definitions, no theorem about any program. -/
import Derived.OrdersIn
import Derived.RangeFuncIn
import Derived.RangeFuncLeaves
import Derived.Below
import GoSem.Dispatch
import Derived.RangeFuncRecord
import Derived.Laws.StructEq
import Derived.Laws.MakeOwn
import Derived.MapKept
import Derived.Laws.IdiomStrings
import Derived.Laws.BytesArg
import Derived.Maps.RangeRun
import Derived.Laws.AppendOwn

noncomputable section
set_option maxRecDepth 100000
set_option linter.unusedVariables false
namespace Go.Am
abbrev aQ:= @List.getElem?_eq_getElem
abbrev bG:= @Nat.exists_eq_succ_of_ne_zero
abbrev cG:= @Nat.le_of_ble_eq_true
abbrev bF:= @decide_eq_true
abbrev dK:= @List.getElem?_eq_some_iff
abbrev bN:= @decide_eq_false
abbrev aG:= @if_neg
abbrev dI:= @Nat.eq_of_beq_eq_true
abbrev cJ:= @List.getElem_mem
abbrev gV:= @List.getElem?_append_left
abbrev cC:= @List.mem_cons
abbrev dJ:= @List.getElem?_map
abbrev bO:= @Nat.le_refl
abbrev aN:= @Ne.symm
abbrev kQ:= @List.getElem?_append_right
abbrev dL:= @List.all_eq_true
abbrev dR:= @Bool.and_eq_true
abbrev eL:= @Result.andThen_ok
abbrev aK:= @if_pos
abbrev mE:= @List.drop_eq_getElem_cons
abbrev cR:= @Sem.run_bind
abbrev sO:= @List.eq_nil_of_length_eq_zero
abbrev mF:= @List.take_of_length_le
abbrev eQ:= @Bool.not_true
abbrev aX:= @absurd
abbrev jZ:= @List.length_append
abbrev sP:= @List.getD_eq_getElem?_getD
abbrev sQ:= @Array.getElem?_eq_some_iff
abbrev dX:= @Nat.zero_add
abbrev nT:= @Nat.ble_eq_true_of_le
abbrev pH:= @List.drop_of_length_le
abbrev jF:= @Array.toList_inj
abbrev kA:= @List.mem_filter
abbrev mG:= @List.length_take
abbrev rG:= @List.length_zipWith
abbrev mH:= @List.length_map
abbrev rH:= @List.getElem?_drop
abbrev oN:= @List.length_cons
abbrev sR:= @List.getElem?_take
abbrev sS:= @Nat.lt_succ_of_lt
abbrev gI:= @Nat.mod_lt
abbrev kR:= @Sem.run_pure
abbrev kS:= @List.mem_map
abbrev jQ:= @Nat.mul_one
abbrev BJ:= @List.mem_of_getElem?
abbrev xQ:= @List.ext_getElem?
abbrev FT:= @List.getElem?_eq_none
abbrev xR:= @Nat.lt_succ_self
abbrev BK:= @List.append_assoc
abbrev DJ:= @Nat.lt_of_lt_of_le
abbrev IP:= @List.getElem?_set_ne
abbrev BL:= @List.length_drop
abbrev vG:= @Nat.add_assoc
abbrev xS:= @List.drop_zero
abbrev IQ:= @List.replicate_succ
abbrev BM:= @List.mem_append
abbrev kB:= @congrArg
abbrev OQ:= @List.length_replicate
abbrev DK:= @Option.map_some
abbrev BN:= @Bool.not_false
abbrev IR:= @Bool.not_eq_true'
abbrev OR:= @Nat.add_eq_zero_iff
abbrev Br:= @Array.toList_setIfInBounds
abbrev KT:= @List.take_add_one
abbrev RP:= @Nat.mul_le_mul_right
abbrev VQ:= @List.getElem?_set_self
abbrev VT:= @Nat.ne_of_beq_eq_false
abbrev zR:= @Nat.le_trans
abbrev OS:= @Nat.eq_zero_or_pos
abbrev FU:= @List.mem_range
abbrev OT:= @List.flatten_cons
abbrev BO:= @Nat.lt_or_ge
abbrev Bs:= @List.getElem?_cons_succ
abbrev VU:= @Int.ofNat_eq_natCast
abbrev VV:= @List.mem_of_mem_drop
abbrev OU:= @Nat.mod_eq_of_lt
abbrev Hs:= @Array.getElem?_eq_getElem
abbrev VW:= @List.getElem?_range
abbrev BP:= @Nat.zero_le
abbrev Ht:= @Option.isSome_iff_exists
abbrev OV:= @Nat.one_ne_zero
abbrev OW:= @List.append_nil
abbrev Bt:= @List.getElem?_of_mem
abbrev Bu:= @List.mem_of_mem_take
abbrev Bv:= @List.getElem_of_mem
abbrev RQ:= @List.map_append
abbrev OX:= @List.all_cons
abbrev VX:= @Bool.or_eq_true
abbrev Xj:= @Array.getD_eq_getD_getElem?
abbrev KU:= @Nat.add_mul
abbrev Hu:= @decide_eq_true_iff
abbrev Hv:= @Bool.false_eq_true
abbrev Nz:= @Array.getElem?_toList
abbrev Bw:= @List.length_set
abbrev Bx:= @List.nil_append
abbrev Oc:= @List.getElem_zipWith
abbrev aC1:= @Array.getElem?_setIfInBounds_ne
abbrev By:= @List.drop_drop
abbrev Hw:= @Option.bind_some
abbrev Xk:= @List.getElem?_cons_zero
abbrev aC2:= @Array.eq_empty_of_size_eq_zero
abbrev RR:= @Nat.le_succ
abbrev VY:= @Nat.zero_mul
abbrev VZ:= @Nat.add_zero
abbrev WA:= @List.all_nil
abbrev Xl:= @List.drop_eq_nil_of_le
abbrev Od:= @List.mem_singleton
abbrev aC3:= @Array.getElem?_setIfInBounds
abbrev Hx:= @List.nodup_cons
abbrev Bz:= @Bool.false_or
abbrev Ca:= @List.map_cons
abbrev Xm:= @Nat.lt_of_sub_eq_succ
abbrev Of:= @List.getElem?_set
abbrev Og:= @List.flatMap_cons
abbrev Hy:= @List.mapM_cons
abbrev Cb:= @Nat.beq_refl
abbrev Cc:= @Nat.succ_mul
abbrev Cd:= @Nat.mul_succ
abbrev Ce:= @Nat.le_of_eq
abbrev Oh:= @List.mem_reverse
abbrev Xn:= @List.take_succ_cons
abbrev Xo:= @Array.getElem?_push
abbrev Hz:= @Bool.true_and
abbrev aC4:= @Array.size_setIfInBounds
abbrev Oi:= @List.foldl_cons
abbrev Oj:= @Bool.eq_iff_iff
abbrev Xp:= @Array.ext_getElem?
abbrev aC5:= @Int.eq_ofNat_of_zero_le
abbrev aC6:= @Nat.add_sub_cancel_left
abbrev Xq:= @Int.toNat_natCast
abbrev Ok:= @List.take_zero
abbrev Xr:= @List.any_eq_false
abbrev aC7:= @Array.getElem?_modify
abbrev aC8:= @List.getElem?_toArray
abbrev Xs:= @List.take_length
abbrev Xt:= @List.foldlM_cons
abbrev Xu:= @List.any_eq_true
abbrev Om:= @List.any_cons
abbrev aC9:= @Array.toList_extract
abbrev aDa:= @Bool.or_eq_false_iff
abbrev aDb:= @Array.toArray_toList
abbrev Xv:= @List.length_nil
abbrev Xw:= @Array.size_push
abbrev aDc:= @Array.toList_modify
abbrev Oo:= @Nat.succ_pos
abbrev Oq:= @Bool.true_or
abbrev aDd:= @List.mem_replicate
abbrev aDe:= @Array.foldl_toList
abbrev aDf:= @Bool.not_eq_false'
abbrev zI:Value:= .int .i64 (.ofNat 0)
abbrev zS:Value:= .string ⟨⟨[]⟩⟩
abbrev zL:Value:= .slice none 0 0
abbrev zF:Value:= .bool false
inductive Tr (α:Type)where
 | leaf
 | node (v:Option α) (l r:Tr α)
namespace Tr
variable{α:Type}
def get:Tr α->Nat->Option α
 | leaf,_=>none
 | node v l r,n=>if n=0 then v else if n%2=1 then l.get (n / 2)else r.get (n / 2-1)
def KB (x:α):Nat->Tr α->Nat->Tr α
 | 0,t,_=>t
 | f+1,leaf,n=>if n=0 then node (some x) leaf leaf else if n%2=1 then node none (KB x f leaf (n / 2)) leaf else node none leaf (KB x f leaf (n / 2-1))
 | f+1,node v l r,n=>if n=0 then node (some x) l r else if n%2=1 then node v (KB x f l (n / 2)) r else node v l (KB x f r (n / 2-1))
def put (t:Tr α) (n:Nat) (x:α):Tr α:=KB x (n+1) t n
end Tr
section
variable{α:Type}{β:Type}
def pW (n:Nat) (z:β) (s:Nat->β):β:=Nat.rec (motive:=fun _=>β) z (fun p _=>s p) n
def gE (b:Bool) (t f:β):β:=Bool.rec (motive:=fun _=>β) f t b
def aQi (o:Option α) (z:β) (s:α->β):β:=Option.rec (motive:=fun _=>β) z s o
def aNB (n:Int) (z:Nat->β) (s:Nat->β):β:=Int.rec (motive:=fun _=>β) z s n
def Or (l:List α) (z:β) (s:α->List α->β):β:=List.rec (motive:=fun _=>β) z (fun a t _=>s a t) l
def NA (z:β) (s:Nat->β->β) (n:Nat):β:=Nat.rec (motive:=fun _=>β) z s n
def iD (z:β) (s:α->List α->β->β) (l:List α):β:=List.rec (motive:=fun _=>β) z s l
def aQj (z:β) (s:Option α->Tr α->Tr α->β->β->β) (t:Tr α):β:=Tr.rec (motive:=fun _=>β) z s t
def aEW (t:Tr α) (z:β) (s:Option α->Tr α->Tr α->β):β:=Tr.rec (motive:=fun _=>β) z (fun v l r _ _=>s v l r) t
def aQk (skip:β) (region:Array Oper->Bool->β) (seq:β->β->β) (cond:Operand->β->β->β) (block:Nat->β->β) (loop scope:β->β)
 (range:Operand->Array Tmp->Code->Code->β) (exit:Nat->β) (label ret bad:β) (c:Code):β:=
 Code.rec (motive:=fun _=>β) skip (fun _ ops draw=>region ops draw) (fun _ _ a b=>seq a b) (fun c _ _ a b=>cond c a b) (fun id _ h=>block id h) (fun _ h=>loop h)
  (fun f ps a b _ _=>range f ps a b) exit (fun _ h=>scope h) (fun _=>label) (fun _=>bad) ret (fun _=>bad) c
end
def rV{α:Type} (t:Tr α) (n:Nat) (k:α->Bool):Bool:=
 aQj (β:=Nat->Bool) (fun _=>false) (fun v _ _ gl gr n=>pW n (aQi v false k) fun p=>pW (Nat.mod p 2) (gl (Nat.div p 2)) fun _=>gr (Nat.div p 2)) t n
def ZR{α:Type} (x:α) (f:Nat):Tr α->Nat->(Tr α->Bool)->Bool:=
 NA (β:=Tr α->Nat->(Tr α->Bool)->Bool) (fun t _ k=>k t)
  (fun _ ih t n k=>aEW t
   (pW n (k (.node (some x) .leaf .leaf)) fun p=>pW (Nat.mod p 2) (ih .leaf (Nat.div p 2) fun c=>k (.node none c .leaf)) fun _=>ih .leaf (Nat.div p 2) fun c=>k (.node none .leaf c))
   (fun v l r=>pW n (k (.node (some x) l r)) fun p=>pW (Nat.mod p 2) (ih l (Nat.div p 2) fun c=>k (.node v c r)) fun _=>ih r (Nat.div p 2) fun c=>k (.node v l c))) f
def bV (n:Nat) (k:Nat->Bool):Bool:=pW n (k 0) fun p=>k (Nat.succ p)
def DL (n:Int) (k:Int->Bool):Bool:=aNB n (fun m=>bV m fun m=>k (.ofNat m)) (fun m=>bV m fun m=>k (.negSucc m))
def Cf (b:Bool) (k:Bool->Bool):Bool:=gE b (k true) (k false)
def ZS{α:Type} (l:List α) (i:Nat) (k:α->Bool):Bool:=
 iD (β:=Nat->Bool) (fun _=>false) (fun a _ ih i=>pW i (k a) fun p=>ih p) l i
def aEX{α:Type} (v:α) (l:List α) (i:Nat) (k:List α->Bool):Bool:=
 iD (β:=Nat->(List α->Bool)->Bool) (fun _ k=>k []) (fun a t ih i k=>pW i (k (v::t)) fun p=>ih p fun t'=>k (a::t')) l i k
def aLH{α:Type} (l:List α) (k:List α->Bool):Bool:=
 iD (β:=(List α->Bool)->Bool) (fun k=>k []) (fun a _ ih k=>ih fun t=>k (a::t)) l k
def FV{α:Type} (l m:List α) (k:List α->Bool):Bool:=
 iD (β:=(List α->Bool)->Bool) (fun k=>k m) (fun a _ ih k=>ih fun t=>k (a::t)) l k
def WB{α:Type} (n:Nat) (l:List α) (k:List α->Bool):Bool:=
 NA (β:=List α->(List α->Bool)->Bool) (fun _ k=>k []) (fun _ ih l k=>Or l false fun a t=>ih t fun t'=>k (a::t')) n l k
def NG{α:Type} (n:Nat) (l:List α) (k:List α->Bool):Bool:=
 NA (β:=List α->Bool) (fun l=>k l) (fun _ ih l=>Or l false fun _ t=>ih t) n l
def aA2{α:Type} (new:List α) (l:List α) (k:List α->Bool):Bool:=
 iD (β:=List α->(List α->Bool)->Bool) (fun l k=>k l) (fun a _ ih l k=>Or l false fun _ t=>ih t fun t'=>k (a::t')) new l k
def tP{α:Type} (off:Nat) (new l:List α) (k:List α->Bool):Bool:=
 NA (β:=List α->(List α->Bool)->Bool) (fun l k=>aA2 new l k) (fun _ ih l k=>Or l false fun a t=>ih t fun t'=>k (a::t')) off l k
def KW{α:Type} (l:List α) (k:Nat->Bool):Bool:=
 iD (β:=Nat->Bool) (fun n=>k n) (fun _ _ ih n=>bV (Nat.succ n) ih) l 0
def aA3{α:Type} (z:List α) (n:Nat) (k:List α->Bool):Bool:=
 NA (β:=List α->Bool) (fun acc=>k acc) (fun _ ih acc=>FV z acc ih) n []
inductive CK where
 | exact
 | grown (olds:List Nat)
 | uT
 | ro
 | rs
structure Tm where
 t:Tr Value
 n:Nat
def YU (T:Tm) (i:Nat) (k:Value->Bool):Bool:=rV T.t i k
def uU (v:Value) (T:Tm) (i:Nat) (k:Tm->Bool):Bool:=
 match Nat.blt i T.n with
 | true=>ZR v (Nat.succ i) T.t i fun t=>k ⟨t,T.n⟩
 | false=>false
def aEY (n:Nat) (args:List Value) (k:Tm->Bool):Bool:=
 iD (β:=Nat->Tm->Bool) (fun _ T=>k T) (fun a _ ih i T=>uU a T i fun T=>bV (Nat.succ i) fun i=>ih i T) args 0 ⟨.leaf,n⟩
inductive jD where
 | dead
 | cells (vs:List Value) (elem:TypeId) (k:CK)
 | map (es:List MapEntry) (clock:Nat)
 | loop (tmps:Tm) (params:List Tmp) (assign body:Code) (state:LoopState) (pending:Option Code)
 | defers
 | iter (m:Option Nat) (since:Nat) (seen:List Nat) (last:Nat)
structure St where
 h:Tr jD
 n:Nat
inductive zH where
 | normal
 | exit (id:Nat)
 | ret
structure bA where
 tmps:Tm
 marks:List Nat
 g:Nat
abbrev VK:=Value->St->Bool
abbrev aEZ:=FuncId->List Value->St->VK->Bool
def bW:Value->Bool
 | .bool _ | .int .. | .string _ | .nilFunc | .nilIface | .pointer none | .slice none _ _ | .map none=>true
 | _=>false
def Dy (uQ bytes:Nat):Bool:=match Nat.ble (uQ*bytes) 140737488355328 with | true=>Nat.ble uQ 140737488355328 | false=>false
theorem Ot{uQ bytes:Nat} (h:uQ*bytes<=140737488355328/\uQ<=140737488355328):Dy uQ bytes=true:=by
 unfold Dy;rw [nT h.1];exact nT h.2
theorem aH4{uQ bytes:Nat} (h:Dy uQ bytes=true):uQ*bytes<=140737488355328/\uQ<=140737488355328:=by
 unfold Dy at h;cases hb:Nat.ble (uQ*bytes) 140737488355328 with
 | false=>rw [hb]at h;cases h
 | true=>rw [hb]at h;exact⟨cG hb,cG h⟩
def lD:Value->Bool
 | .agg _ | .tuple _=>false
 | _=>true
def xU{α:Type} (f:α->Bool) (l:List α):Bool:=iD (β:=Bool) true (fun a _ ih=>gE (f a) ih false) l
def kV:Value->Bool
 | .agg cs=>cs.toList.all bW
 | v=>bW v
def wA (A:bA) (x:Operand) (k:Value->Bool):Bool:=
 match x with
 | .tmp t=>YU A.tmps t k
 | .const v=>match kV v with | true=>k v | false=>false
 | .global g=>match Nat.blt g A.g with | true=>k (.pointer (some ⟨g,0,none⟩)) | false=>false
 | .func f=>k (.func (.func f) #[] #[])
def WC (A:bA) (xs:List Operand) (k:List Value->Bool):Bool:=
 iD (β:=(List Value->Bool)->Bool) (fun k=>k []) (fun x _ ih k=>wA A x fun v=>ih fun vs=>k (v::vs)) xs k
def mV (A:bA) (d:Option Tmp) (v:Value) (k:bA->Bool):Bool:=
 match d with
 | some d=>uU v A.tmps d fun ts=>k ⟨ts,A.marks,A.g⟩
 | none=>k A
def zT (S:St) (o:jD) (k:Nat->St->Bool):Bool:=
 ZR o (Nat.succ S.n) S.h S.n fun h=>bV (Nat.succ S.n) fun n=>k S.n ⟨h,n⟩
def tK (S:St) (i:Nat) (o:jD) (k:St->Bool):Bool:=ZR o (Nat.succ i) S.h i fun h=>k ⟨h,S.n⟩
def DM (S:St) (i:Nat) (k:List Value->TypeId->CK->Bool):Bool:=
 rV S.h i fun o=>match o with | .cells vs e c=>k vs e c | _=>false
def PS (S:St) (i off n:Nat) (k:List Value->Bool):Bool:=DM S i fun vs _ _=>NG off vs fun l=>WB n l k
def Vi (l:List Nat) (h:Tr jD) (k:Tr jD->Bool):Bool:=
 iD (β:=Tr jD->(Tr jD->Bool)->Bool) (fun h k=>k h) (fun i _ ih h k=>ZR .dead (Nat.succ i) h i fun h=>ih h k) l h k
def eqI:Int->Int->Bool
 | .ofNat a,.ofNat b=>Nat.beq a b
 | .negSucc a,.negSucc b=>Nat.beq a b
 | _,_=>false
def FW:IntKind->IntKind->Bool
 | .i8,.i8 | .i16,.i16 | .i32,.i32 | .i64,.i64 | .u8,.u8 | .u16,.u16 | .u32,.u32 | .u64,.u64=>true
 | _,_=>false
def Ia (new:List Value):List Value->Bool:=
 iD (β:=List Value->Bool) (fun _=>true) (fun a _ ih l=>Or l false fun b t=>match a,b with
  | .int j x,.int k y=>match FW j k with
   | true=>match eqI x y with | true=>ih t | false=>false
   | false=>false
  | _,_=>false) new
def vH (S:St) (i off:Nat) (new:List Value) (k:St->Bool):Bool:=
 DM S i fun vs e c=>
  match c with
  | .exact=>tP off new vs fun vs=>tK S i (.cells vs e .exact) k
  | .grown olds=>NG off vs fun l=>match Ia new l with
   | true=>k S
   | false=>tP off new vs fun vs=>Vi olds S.h fun h=>ZR (.cells vs e (.grown [])) (Nat.succ i) h i fun h=>k ⟨h,S.n⟩
  | .rs=>NG off vs fun l=>match Ia new l with | true=>k S | false=>false
  | _=>false
def ltI:Int->Int->Bool
 | .ofNat a,.ofNat b=>Nat.blt a b
 | .ofNat _,.negSucc _=>false
 | .negSucc _,.ofNat _=>true
 | .negSucc a,.negSucc b=>Nat.blt b a
def tC (k:IntKind) (n:Int):Int:=
 match k,n with
 | .i64,.ofNat m=>match Nat.blt m 9223372036854775808 with | true=> .ofNat m | false=>k.wrap n
 | .i64,.negSucc m=>match Nat.blt m 9223372036854775808 with | true=> .negSucc m | false=>k.wrap n
 | .u64,.ofNat m=>match Nat.blt m 18446744073709551616 with | true=> .ofNat m | false=>k.wrap n
 | .u8,.ofNat m=>match Nat.blt m 256 with | true=> .ofNat m | false=>k.wrap n
 | k,n=>k.wrap n
def OY (k:IntKind) (n:Int) (K:Value->Bool):Bool:=DL (tC k n) fun n=>K (.int k n)
def oY (b:Bool) (K:Value->Bool):Bool:=Cf b fun b=>K (.bool b)
def RT (op:BinOp) (k:IntKind) (x y:Int) (K:Value->Bool):Bool:=
 match op with
 | .add=>OY k (Int.add x y) K
 | .sub=>OY k (Int.sub x y) K
 | .mul=>OY k (Int.mul x y) K
 | .quo=>match eqI y 0 with | true=>false | false=>OY k (Int.tdiv x y) K
 | .rem=>match eqI y 0 with | true=>false | false=>DL (Int.tmod x y) fun n=>K (.int k n)
 | .and=>DL (k.wrap (BitVec.ofInt k.bits x &&& BitVec.ofInt k.bits y).toNat) fun n=>K (.int k n)
 | .or=>DL (k.wrap (BitVec.ofInt k.bits x ||| BitVec.ofInt k.bits y).toNat) fun n=>K (.int k n)
 | .xor=>DL (k.wrap (BitVec.ofInt k.bits x ^^^ BitVec.ofInt k.bits y).toNat) fun n=>K (.int k n)
 | .andNot=>DL (k.wrap (BitVec.ofInt k.bits x &&& ~~~ BitVec.ofInt k.bits y).toNat) fun n=>K (.int k n)
 | .eql=>oY (eqI x y) K
 | .neq=>oY (!eqI x y) K
 | .lss=>oY (ltI x y) K
 | .leq=>oY (!ltI y x) K
 | .gtr=>oY (ltI y x) K
 | .geq=>oY (!ltI x y) K
 | _=>false
def Cg (op:BinOp) (k:IntKind) (x y:Int) (K:Value->Bool):Bool:=
 match ltI y 0 with
 | true=>false
 | false=>
  match op with
  | .shl=>OY k (x*2 ^ (min y.toNat k.bits)) K
  | .shr=>DL (x.fdiv (2 ^ (min y.toNat k.bits))) fun n=>K (.int k n)
  | _=>false
def Ov (a b:List UInt8):Bool:=
 iD (β:=List UInt8->Bool) (fun b=>match b with | []=>true | _=>false)
  (fun x _ ih b=>match b with | []=>false | y::b=>match Nat.beq x.toNat y.toNat with | true=>ih b | false=>false) a b
def aGx (a b:List UInt8):Bool:=
 iD (β:=List UInt8->Bool) (fun b=>match b with | []=>false | _=>true)
  (fun x _ ih b=>match b with | []=>false | y::b=>match Nat.blt x.toNat y.toNat with | true=>true | false=>match Nat.beq x.toNat y.toNat with | true=>ih b | false=>false) a b
def Xx (op:BinOp) (a b:ByteArray) (K:Value->Bool):Bool:=
 match op with
 | .add=>KW a.data.toList fun n=>KW b.data.toList fun m=>match Nat.blt (n+m) 9223372036854775808 with
  | true=>FV a.data.toList b.data.toList fun l=>K (.string ⟨⟨l⟩⟩)
  | false=>false
 | .eql=>oY (Ov a.data.toList b.data.toList) K
 | .neq=>oY (!Ov a.data.toList b.data.toList) K
 | .lss=>oY (aGx a.data.toList b.data.toList) K
 | .leq=>oY (aGx a.data.toList b.data.toList || Ov a.data.toList b.data.toList) K
 | .gtr=>oY (!(aGx a.data.toList b.data.toList || Ov a.data.toList b.data.toList)) K
 | .geq=>oY (!aGx a.data.toList b.data.toList) K
 | _=>false
section
variable (P:Program)
def xV (t:TypeId):Option Bool:=(P.underlying t).map fun | .struct _ | .array _ _=>true | _=>false
def cQ (t:TypeId):Option Nat:=(P.info? t).map (·.size)
def xC (t:TypeId):Option (List Value):=((P.info? t).bind (·.zero)).map (·.cells.toList)
def PT (t:TypeId) (a:Value) (S:St) (K:VK):Bool:=
 match a with
 | .pointer (some ⟨i,o,none⟩)=>
  match xV P t with
  | some false=>DM S i fun vs _ _=>ZS vs o fun v=>K v S
  | some true=>match cQ P t with
   | some n=>PS S i o n fun l=>K (.agg ⟨l⟩) S
   | none=>false
  | none=>false
 | _=>false
def pX (v:Value) (k:List Value->Bool):Bool:=
 match v with
 | .agg cs=>match xU lD cs.toList with | true=>k cs.toList | false=>false
 | .tuple _=>false
 | v=>k [v]
def Ch (t:TypeId) (a x:Value) (S:St) (k:St->Bool):Bool:=
 match a with
 | .pointer (some ⟨i,o,none⟩)=>
  match cQ P t with
  | some n=>pX x fun cs=>KW cs fun m=>match Nat.beq m n with
   | true=>vH S i o cs k
   | false=>false
  | none=>false
 | _=>false
def aGy (d:Nat) (x:Option Value) (k:Nat->Bool):Bool:=
 match x with
 | none=>k d
 | some (.int _ (.ofNat n))=>k n
 | _=>false
def RU (len cap:Nat) (lo hi mx:Option Value) (k:Nat->Nat->Nat->Bool):Bool:=
 aGy cap mx fun m=>aGy len hi fun h=>aGy 0 lo fun l=>
  match Nat.ble l h,Nat.ble h m,Nat.ble m cap with
  | true,true,true=>k l h m
  | _,_,_=>false
def isSlice (t:TypeId):Option TypeId:=match P.underlying t with | some (.slice e)=>some e | _=>none
def vI (t:TypeId) (x:Value) (lo hi mx:Option Value) (S:St) (K:Value->Bool):Bool:=
 match x with
 | .string s=>
  match P.underlying t,mx with
  | some .string,none=>KW s.data.toList fun n=>RU n n lo hi none fun l h _=>WB h s.data.toList fun a=>NG l a fun b=>K (.string ⟨⟨b⟩⟩)
  | _,_=>false
 | .slice none len cap=>
  match isSlice P t with
  | some elem=>match cQ P elem with
   | some _=>RU len cap lo hi mx fun l h m=>bV (h-l) fun n=>bV (m-l) fun c=>K (.slice none n c)
   | none=>false
  | none=>false
 | .slice (some ⟨i,o,sp⟩) len cap=>
  match isSlice P t with
  | some elem=>match cQ P elem with
   | some size=>RU len cap lo hi mx fun l h m=>bV (h-l) fun n=>bV (m-l) fun c=>bV (o+l*size) fun o'=>
    match sp,mx with
    | none,_=>match Nat.beq m l with | true=>K (.slice (some ⟨i,o,none⟩) n c) | false=>K (.slice (some ⟨i,o',none⟩) n c)
    | some 0,some _=>match Nat.beq m l with | true=>K (.slice (some ⟨i,o,none⟩) n c) | false=>K (.slice (some ⟨i,o',none⟩) n c)
    | some 0,none=>match Nat.beq m l with
     | true=>K (.slice (some ⟨i,0,some 1⟩) 0 0)
     | false=>DM S i fun _ e ck=>match ck,cQ P e with
      | .exact,_=>false
      | _,some q=>match Nat.beq q size with | true=>K (.slice (some ⟨i,o',some 0⟩) n c) | false=>false
      | _,none=>false
    | some _,_=>K (.slice (some ⟨i,0,some 1⟩) 0 0)
   | none=>false
  | none=>false
 | .pointer (some ⟨i,o,none⟩)=>
  match P.underlying t with
  | some (.array len elem)=>match cQ P elem with
   | some size=>RU len len lo hi mx fun l h m=>bV (h-l) fun n=>bV (m-l) fun c=>bV (o+l*size) fun o'=>
    match Nat.beq m l with | true=>K (.slice (some ⟨i,o,none⟩) n c) | false=>K (.slice (some ⟨i,o',none⟩) n c)
   | none=>false
  | _=>false
 | _=>false
def FX (t:TypeId) (x ix:Value) (K:Value->Bool):Bool:=
 match ix with
 | .int _ (.ofNat i)=>
  match x with
  | .slice (some ⟨b,o,sp⟩) len _=>
   match sp with
   | some (_+1)=>false
   | _=>match isSlice P t with
    | some elem=>match cQ P elem,Nat.blt i len with
     | some size,true=>bV (o+i*size) fun o=>K (.pointer (some ⟨b,o,none⟩))
     | _,_=>false
    | none=>false
  | .pointer (some ⟨b,o,none⟩)=>
   match P.underlying t with
   | some (.array len elem)=>match cQ P elem,Nat.blt i len with
    | some size,true=>bV (o+i*size) fun o=>K (.pointer (some ⟨b,o,none⟩))
    | _,_=>false
   | _=>false
  | _=>false
 | _=>false
def DN (s:TypeId) (f:Nat):Option Field:=match P.underlying s with | some (.struct fs)=>fs[f]? | _=>none
def FY (s:TypeId) (x:Value) (f:Nat) (K:Value->Bool):Bool:=
 match x with
 | .pointer (some ⟨b,o,none⟩)=>
  match DN P s f with
  | some fd=>match cQ P fd.type with
   | some (_+1)=>bV (o+fd.offset) fun o=>K (.pointer (some ⟨b,o,none⟩))
   | _=>false
  | none=>false
 | _=>false
def Vj (t:TypeId) (cs:List Value) (off:Nat) (K:Value->Bool):Bool:=
 match xV P t with
 | some false=>ZS cs off K
 | some true=>match cQ P t with
  | some n=>NG off cs fun l=>WB n l fun l=>K (.agg ⟨l⟩)
  | none=>false
 | none=>false
def WD (t:TypeId) (x:Value) (f:Nat) (K:Value->Bool):Bool:=
 match x with
 | .agg cs=>match DN P t f with
  | some fd=>Vj P fd.type cs.toList fd.offset K
  | none=>false
 | _=>false
def Ib (t:TypeId) (x ix:Value) (K:Value->Bool):Bool:=
 match ix with
 | .int _ (.ofNat i)=>
  match x with
  | .agg cs=>match P.underlying t with
   | some (.array len elem)=>match cQ P elem,Nat.blt i len with
    | some size,true=>Vj P elem cs.toList (i*size) K
    | _,_=>false
   | _=>false
  | .string s=>match P.underlying t with
   | some .string=>ZS s.data.toList i fun b=>bV b.toNat fun n=>K (.int .u8 (.ofNat n))
   | _=>false
  | _=>false
 | _=>false
def Ak (place:Nat->Option (Nat×Nat)) (parts:List (Nat×Value)) (cells:List Value) (k:List Value->Bool):Bool:=
 iD (β:=List Value->Bool) (fun cs=>k cs)
  (fun p _ ih cs=>match place p.1 with
   | some (off,size)=>pX p.2 fun new=>KW new fun m=>match Nat.beq m size with
    | true=>tP off new cs ih
    | false=>false
   | none=>false) parts cells
def IS (A:bA) (parts:List (Nat×Operand)) (k:List (Nat×Value)->Bool):Bool:=
 iD (β:=(List (Nat×Value)->Bool)->Bool) (fun k=>k []) (fun p _ ih k=>wA A p.2 fun v=>ih fun l=>k ((p.1,v)::l)) parts k
def placesOf (fields:List Field):Option (List (Nat×Nat)):=fields.mapM fun f=>(cQ P f.type).map fun s=>(f.offset,s)
def Ow (A:bA) (t:TypeId) (parts:List (Nat×Operand)) (K:Value->Bool):Bool:=
 match xC P t,P.underlying t with
 | some zero,some (.struct fields)=>match placesOf P fields.toList with
  | some pl=>match xU bW zero with
   | true=>IS A parts fun ps=>Ak (pl[·]?) ps zero fun cs=>K (.agg ⟨cs⟩)
   | false=>false
  | none=>false
 | some zero,some (.array _ elem)=>match cQ P elem with
  | some size=>match xU bW zero with
   | true=>IS A parts fun ps=>Ak (fun i=>some (i*size,size)) ps zero fun cs=>K (.agg ⟨cs⟩)
   | false=>false
  | none=>false
 | _,_=>false
def CH (A:bA) (t:TypeId) (len:Nat) (parts:List (Nat×Operand)) (S:St) (K:VK):Bool:=
 match isSlice P t with
 | some elem=>match cQ P elem,xC P elem with
  | some (size+1),some zero=>match Nat.ble (len*(size+1)) 16777216,Nat.beq zero.length (size+1)with
   | true,true=>match xU bW zero with
    | true=>aA3 zero len fun cs=>IS A parts fun ps=>Ak (fun i=>some (i*(size+1),size+1)) ps cs fun cs=>
     zT S (.cells cs elem .exact) fun i S=>K (.slice (some ⟨i,0,none⟩) len len) S
    | false=>false
   | _,_=>false
  | _,_=>false
 | none=>false
def WE (t:TypeId) (S:St) (K:VK):Bool:=
 match xC P t with
 | some zero=>match xU bW zero with
  | true=>aLH zero fun zero=>zT S (.cells zero t .exact) fun i S=>K (.pointer (some ⟨i,0,none⟩)) S
  | false=>false
 | none=>false
def aA4 (t:TypeId) (v:Value) (S:St) (K:VK):Bool:=
 pX v fun cs=>zT S (.cells cs t .exact) fun i S=>K (.pointer (some ⟨i,0,none⟩)) S
def xW (t:TypeId) (len cap:Value) (S:St) (K:VK):Bool:=
 match len,cap with
 | .int _ (.ofNat l),.int _ (.ofNat c)=>
  match isSlice P t with
  | some elem=>match P.info? elem,xC P elem with
   | some info,some zero=>match Nat.ble l c,Nat.ble (info.bytes*c) 1099511627776,Nat.ble c 1099511627776,Nat.beq zero.length info.size,info.size with
    | true,true,true,true,_+1=>match xU bW zero with
     | true=>match Nat.ble c 65536 with
      | true=>aA3 zero c fun cs=>zT S (.cells cs elem .exact) fun i S=>K (.slice (some ⟨i,0,none⟩) l c) S
      | false=>zT S .dead fun i S=>K (.slice (some ⟨i,0,none⟩) l c) S
     | false=>false
    | _,_,_,_,_=>false
   | _,_=>false
  | none=>false
 | _,_=>false
def sU (t:TypeId):Bool:=match P.underlying t with | some (.int _) | some .string | some .bool=>true | _=>false
def xD (t:TypeId) (a b:Value) (k:Bool->Bool):Bool:=
 match P.underlying t with
 | some (.int _)=>match a,b with
  | .int j x,.int l y=>match FW j l with | true=>Cf (eqI x y) k | false=>false
  | _,_=>false
 | some .string=>match a,b with
  | .string x,.string y=>Cf (Ov x.data.toList y.data.toList) k
  | _,_=>false
 | some .bool=>match a,b with
  | .bool x,.bool y=>Cf (x==y) k
  | _,_=>false
 | _=>false
def PU (fs:List Field) (a b:List Value) (k:Bool->Bool):Bool:=
 iD (β:=List Value->List Value->Bool) (fun _ _=>k true)
  (fun f _ ih a b=>Or a false fun x a=>Or b false fun y b=>xD P f.type x y fun e=>match e with | true=>ih a b | false=>k false) fs a b
def xX:Nat->List Field->Bool
 | _,[]=>true
 | i,f::fs=>f.name != "_" &&f.offset==i&&sU P f.type&&xX (i+1) fs
def RV (t:TypeId):Option (List Field):=
 match P.underlying t with
 | some (.struct fs)=>if xX P 0 fs.toList&& !P.stoodInHeld t&& !P.eqGuardType P.depth t then some fs.toList else none
 | _=>none
def pY (t:TypeId) (a b:Value) (k:Bool->Bool):Bool:=
 match a,b with
 | .agg xs,.agg ys=>match RV P t with
  | some fs=>PU P fs xs.toList ys.toList k
  | none=>false
 | .pointer (some _),.pointer none | .pointer none,.pointer (some _)=>match P.underlying t with | some (.pointer _)=>k false | _=>false
 | .pointer none,.pointer none=>match P.underlying t with | some (.pointer _)=>k true | _=>false
 | .slice (some _) _ _,.slice none _ _ | .slice none _ _,.slice (some _) _ _=>match P.underlying t with | some (.slice _)=>k false | _=>false
 | .slice none _ _,.slice none _ _=>match P.underlying t with | some (.slice _)=>k true | _=>false
 | .map (some _),.map none | .map none,.map (some _)=>match P.underlying t with | some (.map _ _)=>k false | _=>false
 | .map none,.map none=>match P.underlying t with | some (.map _ _)=>k true | _=>false
 | .func _ _ _,.nilFunc | .nilFunc,.func _ _ _=>match P.underlying t with | some (.func _ _ _)=>k false | _=>false
 | .nilFunc,.nilFunc=>match P.underlying t with | some (.func _ _ _)=>k true | _=>false
 | .iface _ _,.nilIface | .nilIface,.iface _ _=>match P.underlying t with | some (.interface _)=>k false | _=>false
 | .bool x,.bool y=>match P.underlying t with | some .bool=>Cf (x==y) k | _=>false
 | _,_=>false
def Ci (op:BinOp) (t:TypeId) (a b:Value) (K:Value->Bool):Bool:=
 match a,b with
 | .int k x,.int k' y=>match op with
  | .shl | .shr=>Cg op k x y K
  | _=>match FW k k' with | true=>RT op k x y K | false=>false
 | .string x,.string y=>Xx op x y K
 | a,b=>match op with
  | .eql=>pY P t a b fun e=>oY e K
  | .neq=>pY P t a b fun e=>oY (!e) K
  | _=>false
def unK (op:UnOp) (a:Value) (K:Value->Bool):Bool:=
 match op,a with
 | .neg,.int k n=>OY k (Int.sub 0 n) K
 | .xor,.int k n=>DL (k.wrap (BitVec.ofInt k.bits (if k.signed then-1 else k.max) ^^^ BitVec.ofInt k.bits n).toNat) fun n=>K (.int k n)
 | .not,.bool b=>oY (!b) K
 | _,_=>false
def aH5 (l:List UInt8) (k:List Value->Bool):Bool:=
 iD (β:=(List Value->Bool)->Bool) (fun k=>k []) (fun b _ ih k=>bV b.toNat fun n=>ih fun t=>k (.int .u8 (.ofNat n)::t)) l k
def aDg (l:List Value) (k:List UInt8->Bool):Bool:=
 iD (β:=(List UInt8->Bool)->Bool) (fun k=>k []) (fun v _ ih k=>match v with | .int .u8 (.ofNat n)=>ih fun t=>k (UInt8.ofNat n::t) | _=>false) l k
def Jw (src dst:TypeId) (x:Value) (S:St) (K:VK):Bool:=
 match x with
 | .int _ n=>match P.underlying src,P.underlying dst with
  | some _,some (.int k)=>OY k n fun v=>K v S
  | _,_=>false
 | .string s=>match P.underlying src,P.underlying dst with
  | some .string,some .string=>K (.string s) S
  | some .string,some (.slice e)=>match P.underlying e,cQ P e with
   | some (.int .u8),some 1=>aH5 s.data.toList fun l=>KW l fun n=>zT S (.cells l e (.grown [])) fun i S=>K (.slice (some ⟨i,0,some 0⟩) n n) S
   | _,_=>false
  | _,_=>false
 | .slice none _ _=>match P.underlying src,P.underlying dst with
  | some (.slice e),some .string=>match P.underlying e with
   | some (.int .u8)=>K (.string ⟨⟨[]⟩⟩) S
   | _=>false
  | _,_=>false
 | .slice (some ⟨i,o,sp⟩) len _=>match P.underlying src,P.underlying dst,sp with
  | _,_,some (_+1)=>false
  | some (.slice e),some .string,_=>match P.underlying e with
   | some (.int .u8)=>PS S i o len fun l=>aDg l fun l=>K (.string ⟨⟨l⟩⟩) S
   | _=>false
  | _,_,_=>false
 | _=>false
def Xy (S:St) (m:Value) (k:Option Nat->List MapEntry->Nat->Bool):Bool:=
 match m with
 | .map none=>k none [] 0
 | .map (some r)=>rV S.h r fun o=>match o with | .map es c=>k (some r) es c | _=>false
 | _=>false
def IT (t:TypeId) (a b:Value) (k:Bool->Bool):Bool:=
 match a,b with
 | .agg _,.agg _=>pY P t a b k
 | a,b=>xD P t a b k
def Jx (t:TypeId) (key:Value) (es:List MapEntry) (k:Option (Nat×MapEntry)->Bool):Bool:=
 iD (β:=Nat->Bool) (fun _=>k none)
  (fun e _ ih i=>IT P t key e.key fun b=>match b with | true=>k (some (i,e)) | false=>bV (Nat.succ i) ih) es 0
def TS (t:TypeId) (key:Value):Bool:=
 match kV key with
 | true=>match sU P t with
  | true=>true
  | false=>match RV P t,key with
   | some fs,.agg cs=>Nat.ble fs.length cs.toList.length
   | _,_=>false
 | false=>false
def IU (t:TypeId):Option (TypeId×TypeId):=match P.underlying t with | some (.map k e)=>some (k,e) | _=>none
def zeroV (t:TypeId):Option Value:=(P.info? t).bind (·.zero)
def YV (t:TypeId) (x ix:Value) (ok:Bool) (S:St) (K:VK):Bool:=
 match IU P t with
 | some (kt,et)=>match TS P kt ix,zeroV P et with
  | true,some zero=>Xy S x fun _ es _=>Jx P kt ix es fun r=>
   match r with
   | some (_,e)=>match ok with | true=>K (.tuple ⟨[e.val,.bool true]⟩) S | false=>K e.val S
   | none=>match kV zero with
    | true=>match ok with | true=>K (.tuple ⟨[zero,.bool false]⟩) S | false=>K zero S
    | false=>false
  | _,_=>false
 | none=>false
def FZ (t:TypeId) (m key x:Value) (S:St) (k:St->Bool):Bool:=
 match IU P t with
 | some (kt,_)=>match TS P kt key with
  | true=>Xy S m fun r es c=>match r with
   | some r=>Jx P kt key es fun f=>
    match f with
    | some (i,e)=>match Instr.sameBits 10000 e.key key with
     | true=>aEX {e with val:=x} es i fun es=>tK S r (.map es c) k
     | false=>false
    | none=>FV es [{key:=key,val:=x,born:=c}] fun es=>bV (Nat.succ c) fun c=>tK S r (.map es c) k
   | none=>false
  | false=>false
 | none=>false
def Ic (t:TypeId) (m key:Value) (S:St) (K:VK):Bool:=
 match IU P t with
 | some (kt,et)=>match TS P kt key,zeroV P et with
  | true,some zero=>Xy S m fun r es c=>match r with
   | some r=>Jx P kt key es fun f=>
    match f with
    | some (_,e)=>match Instr.sameBits 10000 e.key key with
     | true=>K (.tuple ⟨[e.val,.int .i64 (.ofNat e.born)]⟩) S
     | false=>false
    | none=>match kV zero with
     | true=>FV es [{key:=key,val:=zero,born:=c}] fun es=>bV (Nat.succ c) fun c'=>tK S r (.map es c') fun S=>K (.tuple ⟨[zero,.int .i64 (.ofNat c)]⟩) S
     | false=>false
   | none=>false
  | _,_=>false
 | none=>false
def Vk (n:Nat) (es:List MapEntry) (k:Nat->MapEntry->Bool):Bool:=
 iD (β:=Nat->Bool) (fun _=>false) (fun e _ ih i=>match Nat.beq e.born n with | true=>k i e | false=>bV (Nat.succ i) ih) es 0
def WF (m s x:Value) (S:St) (k:St->Bool):Bool:=
 match s with
 | .int _ (.ofNat n)=>Xy S m fun r es c=>match r with
  | some r=>Vk n es fun i e=>aEX {e with val:=x} es i fun es=>tK S r (.map es c) k
  | none=>false
 | _=>false
def aH6{α:Type} (l:List α) (i:Nat) (k:List α->Bool):Bool:=
 iD (β:=Nat->(List α->Bool)->Bool) (fun _ k=>k []) (fun a t ih i k=>pW i (k t) fun p=>ih p fun t'=>k (a::t')) l i k
def Xz (argTypes:List TypeId) (m key:Value) (S:St) (k:St->Bool):Bool:=
 match argTypes with
 | t::_=>match IU P t with
  | some (kt,_)=>match TS P kt key with
   | true=>Xy S m fun r es c=>match r with
    | none=>k S
    | some r=>Jx P kt key es fun f=>match f with
     | some (i,_)=>aH6 es i fun es=>tK S r (.map es c) k
     | none=>k S
   | false=>false
  | none=>false
 | []=>false
def aLI (n:Nat) (l:List Nat):Bool:=iD (β:=Bool) false (fun m _ ih=>gE (Nat.beq m n) true ih) l
def aA5 (seen:List Nat) (es:List MapEntry) (k:List MapEntry->Bool):Bool:=
 iD (β:=(List MapEntry->Bool)->Bool) (fun k=>k []) (fun e _ ih k=>gE (aLI e.born seen) (ih k) (ih fun t=>k (e::t))) es k
def Dz (t:TypeId) (x:Value) (S:St) (K:VK):Bool:=
 match IU P t with
 | some _=>match x with
  | .map none=>zT S (.iter none 0 [] 0) fun i S=>K (.pointer (some ⟨i,0,none⟩)) S
  | .map (some r)=>rV S.h r fun o=>match o with
   | .map _ c=>zT S (.iter (some r) c [] c) fun i S=>K (.pointer (some ⟨i,0,none⟩)) S
   | _=>false
  | _=>false
 | none=>false
def aE0 (it:Value) (S:St) (K:VK):Bool:=
 match it with
 | .pointer (some ⟨i,0,none⟩)=>rV S.h i fun o=>match o with
  | .iter none _ _ _=>K (.tuple ⟨[.bool false]⟩) S
  | .iter (some r) since seen last=>rV S.h r fun o=>match o with
   | .map es c=>match xU (fun e=>Nat.blt e.born since) es,Nat.ble since last with
    | true,true=>aA5 seen es fun l=>match l with
     | []=>K (.tuple ⟨[.bool false]⟩) S
     | e::t=>xU (fun e=>FV seen [e.born] fun seen=>tK S i (.iter (some r) since seen c) fun S=>K (.tuple ⟨[.bool true,e.key,e.val]⟩) S) (e::t)
    | _,_=>false
   | _=>false
  | _=>false
 | _=>false
def aA6 (l:List Nat) (k:Nat->Bool):Bool:=iD (β:=Bool) false (fun n t ih=>match t with | []=>k n | _=>ih) l
def Ya (it:Value) (S:St) (K:VK):Bool:=
 match it with
 | .pointer (some ⟨i,0,none⟩)=>rV S.h i fun o=>match o with
  | .iter (some r) _ seen last=>rV S.h r fun o=>match o with
   | .map es c=>match Nat.beq c last with
    | true=>aA6 seen fun b=>Vk b es fun _ e=>K (.tuple ⟨[e.key,e.val]⟩) S
    | false=>false
   | _=>false
  | _=>false
 | _=>false
def Al (big:Bool) (l:List Value) (j:IntKind) (x:Int) (K:Value->Bool):Bool:=
 iD (β:=Int->Bool) (fun x=>K (.int j x)) (fun v _ ih x=>match v with
  | .int _ y=>gE (gE big (ltI x y) (ltI y x)) (ih y) (ih x)
  | _=>false) l x
def OZ (S:St) (size n:Nat) (x:Value) (k:List Value->Bool):Bool:=
 match x with
 | .slice none _ _=>match n with | 0=>k [] | _=>false
 | .slice (some ⟨i,o,sp⟩) _ _=>match n with
  | 0=>k []
  | n+1=>match sp with
   | some (_+1)=>false
   | _=>PS S i o ((n+1)*size) k
 | .string s=>match size with
  | 1=>WB n s.data.toList fun l=>aH5 l k
  | _=>false
 | _=>false
def TT (x:Value) (k:Nat->Bool):Bool:=
 match x with
 | .slice _ n _=>k n
 | .string s=>KW s.data.toList k
 | _=>false
def TU (elem:TypeId) (old new:List Value) (n:Nat) (from_:Option (Nat×List Value×TypeId×List Nat)) (S:St) (K:VK):Bool:=
 FV old new fun cs=>
  match from_ with
  | none=>zT S (.cells cs elem (.grown [])) fun i S=>K (.slice (some ⟨i,0,some 0⟩) n n) S
  | some (b,vs,e,olds)=>tK S b (.cells vs e .uT) fun S=>zT S (.cells cs elem (.grown (b::olds))) fun i S=>K (.slice (some ⟨i,0,some 0⟩) n n) S
def Tn:Option TypeDesc->Bool
 | some (.slice _) | some .string=>true
 | _=>false
def To:Option Nat->Bool
 | none | some 0=>true
 | _=>false
def Id (size:Nat) (new:List Value) (base:Option Addr) (sLen sCap uQ:Nat) (S:St) (K:VK):Bool:=
 match base with
 | some ⟨b,o,sp⟩=>match To sp,xU lD new with
  | true,true=>bV (o+sLen*size) fun at_=>vH S b at_ new fun S=>K (.slice (some ⟨b,o,sp⟩) uQ sCap) S
  | _,_=>false
 | none=>false
def Ea (elem:TypeId) (size:Nat) (new:List Value) (base:Option Addr) (sLen uQ:Nat) (S:St) (K:VK):Bool:=
 match base with
 | none=>match sLen with | 0=>TU elem [] new uQ none S K | _=>false
 | some ⟨b,o,none⟩=>PS S b o (sLen*size) fun old=>TU elem old new uQ none S K
 | some ⟨b,o,some 0⟩=>DM S b fun vs e c=>KW vs fun m=>match Nat.beq (o+sLen*size) m,c,cQ P e with
  | true,.grown olds,some q=>match Nat.beq q size,xU lD new,Nat.beq e elem with
   | true,true,true=>PS S b o (sLen*size) fun old=>TU elem old new uQ (some (b,vs,e,olds)) S K
   | _,_,_=>false
  | _,_,_=>false
 | _=>false
def RW (argTypes:List TypeId) (s x:Value) (S:St) (K:VK):Bool:=
 match argTypes with
 | sT::xT::_=>
  match isSlice P sT,Tn (P.underlying xT)with
  | some elem,true=>match P.info? elem with
   | some info=>match info.size,info.zero,s with
    | size+1,some z,.slice base sLen sCap=>match Nat.beq z.cells.size (size+1)with
     | true=>TT x fun n=>
      match n with
      | 0=>match Nat.ble sLen sCap with | true=>K (.slice base sLen sCap) S | false=>false
      | n'+1=>OZ S (size+1) (n'+1) x fun new=>bV (sLen+(n'+1)) fun uQ=>
       match Dy uQ info.bytes with
       | true=>match Nat.ble uQ sCap with
        | true=>Id (size+1) new base sLen sCap uQ S K
        | false=>Ea P elem (size+1) new base sLen uQ S K
       | false=>false
     | false=>false
    | _,_,_=>false
   | none=>false
  | _,_=>false
 | _=>false
def Vl (argTypes:List TypeId) (dst src:Value) (S:St) (K:VK):Bool:=
 match argTypes with
 | dT::_=>match isSlice P dT with
  | some elem=>match cQ P elem,dst with
   | some (size+1),.slice base aOb _=>TT src fun m=>bV (Nat.min m aOb) fun n=>
    match n with
    | 0=>K (.int .i64 (.ofNat 0)) S
    | n'+1=>OZ S (size+1) (n'+1) src fun cs=>match base with
     | some ⟨i,o,sp⟩=>match To sp,xU lD cs with
      | true,true=>vH S i o cs fun S=>K (.int .i64 (.ofNat (n'+1))) S
      | _,_=>false
     | none=>false
   | _,_=>false
  | none=>false
 | []=>false
def oZ (b:Builtin) (argTypes:List TypeId) (args:List Value) (S:St) (K:VK):Bool:=
 match b,args with
 | .len,[x]=>match argTypes with
  | t::_=>match x with
   | .slice _ n _=>match isSlice P t with | some _=>K (.int .i64 (.ofNat n)) S | none=>false
   | .string s=>match P.underlying t with | some .string=>KW s.data.toList fun n=>K (.int .i64 (.ofNat n)) S | _=>false
   | .map _=>match IU P t with | some _=>Xy S x fun _ es _=>KW es fun n=>K (.int .i64 (.ofNat n)) S | none=>false
   | .agg _=>match P.underlying t with | some (.array n _)=>K (.int .i64 (.ofNat n)) S | _=>false
   | _=>false
  | []=>false
 | .append,[s,x]=>RW P argTypes s x S K
 | .copy,[d,s]=>Vl P argTypes d s S K
 | .delete,[m,k]=>Xz P argTypes m k S fun S=>K (.tuple #[]) S
 | .min,.int j x::l=>Al false l j x fun v=>K v S
 | .max,.int j x::l=>Al true l j x fun v=>K v S
 | .cap,[x]=>match argTypes with
  | t::_=>match isSlice P t,x with
   | some _,.slice none _ c=>K (.int .i64 (.ofNat c)) S
   | some _,.slice (some ⟨_,_,none⟩) _ c=>K (.int .i64 (.ofNat c)) S
   | _,_=>false
  | []=>false
 | .clear,[.slice base n _]=>match argTypes with
  | t::_=>match isSlice P t with
   | some elem=>match cQ P elem,xC P elem with
    | some size,some zero=>match base,n with
     | none,_=>K (.tuple #[]) S
     | some _,0=>K (.tuple #[]) S
     | some ⟨i,o,sp⟩,n+1=>match To sp,Nat.beq zero.length size,xU bW zero,size with
      | true,true,true,_+1=>aA3 zero (n+1) fun cs=>vH S i o cs fun S=>K (.tuple #[]) S
      | _,_,_,_=>false
    | _,_=>false
   | none=>false
  | []=>false
 | _,_=>false
end
structure Env where
 P:Program
 ov:FuncId->Option (List Value->St->VK->Bool)
 call:aEZ
 round:Nat->List Value->St->VK->Bool
 most:Nat
def KX (P:Program) (t:TypeId) (name:String):Option FuncId:=match P.info? t,P.underlying t with
 | some info,some d=>match info.methods.find? (·.name==name)with
  | some m=>match m.path.toList,m.func with
   | [],some (g,pr)=>match d,pr with
    | .pointer _,true=>some g
    | .pointer _,false=>none
    | _,false=>some g
    | _,true=>none
   | _,_=>none
  | none=>none
 | _,_=>none
def nF (E:Env) (A:bA) (c:Call) (S:St) (K:VK):Bool:=
 WC A c.args.toList fun args=>
  match c.callee with
  | .builtin b=>oZ E.P b c.argTypes.toList args S K
  | .value f=>wA A f fun f=>match f with
   | .func (.func g) first captured=>FV first.toList args fun l=>FV l captured.toList fun l=>E.call g l S K
   | .func (.yield l) first captured=>match first.toList,captured.toList with
    | [],[]=>E.round l args S K
    | _,_=>false
   | _=>false
  | .invoke r m=>wA A r fun v=>match v with
   | .iface t x=>match KX E.P t m with
    | some g=>E.call g (x::args) S K
    | none=>false
   | _=>false
def Cj (A:bA) (x:Option Operand) (k:Option Value->Bool):Bool:=
 match x with
 | none=>k none
 | some x=>wA A x fun v=>k (some v)
def AN (E:Env) (o:Oper) (A:bA) (S:St) (K:VK):Bool:=
 match o.op with
 | .move x | .assign x=>wA A x fun v=>K v S
 | .pick c a b=>wA A c fun c=>wA A a fun a=>wA A b fun b=>match c with
  | .bool true=>K a S
  | .bool false=>K b S
  | _=>false
 | .alloc t=>WE E.P t S K
 | .box t x=>wA A x fun v=>aA4 t v S K
 | .build t ps=>Ow E.P A t ps.toList fun v=>K v S
 | .buildSlice t n ps=>CH E.P A t n ps.toList S K
 | .load t a=>wA A a fun a=>PT E.P t a S K
 | .store t a x=>wA A a fun a=>wA A x fun x=>Ch E.P t a x S fun S=>K undef S
 | .nilCheck x=>wA A x fun v=>match v with
  | .pointer (some a)=>K (.pointer (some a)) S
  | .func (.func f) a b=>K (.func (.func f) a b) S
  | .func (.yield f) a b=>K (.func (.yield f) a b) S
  | .func (.method s) ⟨[.iface t w]⟩ ⟨[]⟩=>match KX E.P t s with
   | some _=>K (.func (.method s) ⟨[.iface t w]⟩ ⟨[]⟩) S
   | none=>false
  | .iface t w=>K (.iface t w) S
  | _=>false
 | .binOp op t x y _=>wA A x fun a=>wA A y fun b=>Ci E.P op t a b fun v=>K v S
 | .unOp op _ x=>wA A x fun a=>unK op a fun v=>K v S
 | .convert s d x=>wA A x fun a=>Jw E.P s d a S K
 | .makeInterface t x=>wA A x fun v=>match E.P.underlying t with
  | some (.interface _)=>false
  | some _=>K (.iface t v) S
  | none=>false
 | .makeFunc fn first cap=>match fn with
  | .func f=>WC A first.toList fun a=>WC A cap.toList fun b=>K (.func (.func f) ⟨a⟩ ⟨b⟩) S
  | .method s=>match first.toList,cap.toList with
   | [x],[]=>wA A x fun v=>K (.func (.method s) ⟨[v]⟩ ⟨[]⟩) S
   | _,_=>false
  | _=>false
 | .makeMap _ none=>zT S (.map [] 0) fun i S=>K (.map (some i)) S
 | .makeMap t (some r)=>wA A r fun r=>match r,IU E.P t with
  | .int _ _,some _=>zT S (.map [] 0) fun i S=>K (.map (some i)) S
  | _,_=>false
 | .range t x=>wA A x fun x=>Dz E.P t x S K
 | .next it s=>wA A it fun it=>match s with | true=>false | false=>aE0 it S K
 | .entry it=>wA A it fun it=>Ya it S K
 | .typeAssert x _ as ok=>wA A x fun v=>match v,E.P.underlying as with
  | .iface _ _,some (.interface _)=>false
  | .iface t w,some _=>match Nat.beq t as,ok with
   | true,true=>K (.tuple ⟨[w,.bool true]⟩) S
   | true,false=>K w S
   | false,_=>false
  | _,_=>false
 | .makeSlice t l c=>wA A l fun l=>wA A c fun c=>xW E.P t l c S K
 | .slice t x lo hi mx=>match mx,hi with
  | some _,none=>false
  | _,_=>wA A x fun x=>Cj A lo fun lo=>Cj A hi fun hi=>Cj A mx fun mx=>vI E.P t x lo hi mx S fun v=>K v S
 | .fieldAddr s x f=>wA A x fun x=>FY E.P s x f fun v=>K v S
 | .field t x f=>wA A x fun x=>WD E.P t x f fun v=>K v S
 | .indexAddr t x ix=>wA A x fun x=>wA A ix fun ix=>FX E.P t x ix fun v=>K v S
 | .index t x ix=>wA A x fun x=>wA A ix fun ix=>Ib E.P t x ix fun v=>K v S
 | .lookup t x ix ok=>wA A x fun x=>wA A ix fun ix=>YV E.P t x ix ok S K
 | .mapUpdate t m k x | .insert t m k x=>wA A m fun m=>wA A k fun k=>wA A x fun x=>FZ E.P t m k x S fun S=>K undef S
 | .mapEntry t m k=>wA A m fun m=>wA A k fun k=>Ic E.P t m k S K
 | .entryStore _ m s x=>wA A m fun m=>wA A s fun s=>wA A x fun x=>WF m s x S fun S=>K undef S
 | .extract t i=>wA A t fun v=>match v with
  | .tuple vs=>ZS vs.toList i fun v=>K v S
  | _=>false
 | .call c=>nF E A c S K
 | _=>false
def DO (ops:Array Oper) (o:Oper) (A:bA) (k:Bool->Bool):Bool:=
 match o.guard with
 | none=>k true
 | some (j,want)=>match ops[j]? with
  | some o'=>match o'.dst with
   | some d=>YU A.tmps d fun v=>match v with
    | .bool b=>match b,want with | true,true | false,false=>k true | _,_=>k false
    | _=>k false
   | none=>k false
  | none=>k false
def Ck (E:Env) (ops:Array Oper) (o:Oper) (A:bA) (S:St) (k:bA->St->Bool):Bool:=
 DO ops o A fun b=>gE b (AN E o A S fun v S=>mV A o.dst v fun A=>k A S) (mV A o.dst undef fun A=>k A S)
def ZT (E:Env) (ops:Array Oper) (l:List Oper) (A:bA) (S:St) (k:bA->St->Bool):Bool:=
 iD (β:=bA->St->Bool) (fun A S=>k A S) (fun o _ ih A S=>Ck E ops o A S ih) l A S
abbrev Cl:=zH->bA->St->Bool
def aE1 (body:bA->St->Cl->Bool) (most:Nat) (A:bA) (S:St) (K:Cl):Bool:=
 NA (β:=bA->St->Bool) (fun _ _=>false) (fun _ ih A S=>body A S fun e A S=>match e with | .normal=>ih A S | e=>K e A S) most A S
def Cm (E:Env) (r:Option Nat) (f:Operand) (params:Array Tmp) (assign body:Code) (A:bA) (S:St) (K:Cl):Bool:=
 wA A f fun f=>match f with
  | .func (.func g) first captured=>
   let go (A:bA) (S:St):Bool:=zT S (.loop A.tmps params.toList assign body .ready none) fun l S=>
    FV first.toList [.func (.yield l) #[] #[]] fun as=>FV as captured.toList fun as=>E.call g as S fun _ S=>
     rV S.h l fun o=>match o with
      | .loop tm ps as bo st pe=>match st with
       | .busy=>false
       | _=>tK S l (.loop tm ps as bo .exhausted pe) fun S=>match pe with
        | none=>K .normal A S
        | some .ret=>K .ret A S
        | some (.exit id)=>K (.exit id) A S
        | _=>false
      | _=>false
   match r with
   | some l=>rV S.h l fun o=>match o with | .loop _ _ _ _ _ _=>go A S | _=>false
   | none=>zT S .defers fun d S=>go ⟨A.tmps,d::A.marks,A.g⟩ S
  | _=>false
def xY (E:Env) (dr:Array Oper->bA->St->(bA->St->Bool)->Bool) (r:Option Nat) (c:Code):bA->St->Cl->Bool:=
 aQk (β:=bA->St->Cl->Bool)
  (fun A S K=>K .normal A S)
  (fun ops draw A S K=>gE draw (dr ops A S fun A S=>K .normal A S) (ZT E ops ops.toList A S fun A S=>K .normal A S))
  (fun ha hb A S K=>ha A S fun e A S=>match e with | .normal=>hb A S K | e=>K e A S)
  (fun c ha hb A S K=>wA A c fun v=>match v with | .bool b=>gE b (ha A S K) (hb A S K) | _=>false)
  (fun id h A S K=>h A S fun e A S=>match e with
   | .exit i=>match Nat.beq i id with | true=>K .normal A S | false=>K (.exit i) A S
   | e=>K e A S)
  (fun h A S K=>aE1 h E.most A S K)
  (fun h A S K=>h A S K)
  (fun f params assign body A S K=>Cm E r f params assign body A S K)
  (fun id A S K=>K (.exit id) A S)
  (fun A S K=>K .normal A S)
  (fun A S K=>K .ret A S)
  (fun _ _ _=>false) c
def PA (l:List Nat) (S:St) (k:St->Bool):Bool:=
 iD (β:=St->Bool) (fun S=>k S) (fun d _ ih S=>rV S.h d fun o=>match o with | .defers=>tK S d .dead ih | _=>false) l S
def tV (P:Program) (rs:List ResultVar) (A:bA) (S:St) (k:List Value->Bool):Bool:=
 iD (β:=(List Value->Bool)->Bool) (fun k=>k []) (fun x _ ih k=>match x with
  | .tmp t=>YU A.tmps t fun v=>ih fun vs=>k (v::vs)
  | .cell a t=>YU A.tmps a fun a=>PT P t a S fun v _=>ih fun vs=>k (v::vs)) rs k
def Cn (E:Env) (dr:Array Oper->bA->St->(bA->St->Bool)->Bool) (f:FuncId) (args:List Value) (S:St) (K:VK):Bool:=
 match E.P.funcs[f]? with
 | some fn=>match fn.body with
  | some c=>bV fn.ntmps fun n=>aEY n args fun ts=>xY E dr none c ⟨ts,[],E.P.globals.size⟩ S fun e A S=>
   match e with
   | .exit _=>false
   | _=>PA A.marks S fun S=>tV E.P fn.results.toList A S fun vs=>match vs with | [v]=>K v S | vs=>K (.tuple ⟨vs⟩) S
  | none=>false
 | none=>false
def Ie (E:Env) (dr:Array Oper->bA->St->(bA->St->Bool)->Bool) (l:Nat) (args:List Value) (S:St) (K:VK):Bool:=
 rV S.h l fun o=>match o with
  | .loop tmps params assign body _ _=>
   let laid:List Tmp->List Value->Tm->(Tm->Bool)->Bool:=fun ps=>iD (β:=List Value->Tm->(Tm->Bool)->Bool)
    (fun as ts k=>match as with | []=>k ts | _=>false) (fun p _ ih as ts k=>match as with | a::as=>uU a ts p fun ts=>ih as ts k | []=>false) ps
   laid params args tmps fun ts=>xY E dr (some l) assign ⟨ts,[],E.P.globals.size⟩ S fun e A S=>match e with
    | .normal=>rV S.h l fun o=>match o with
     | .loop tm ps as bo .ready pe=>tK S l (.loop tm ps as bo .busy pe) fun S=>xY E dr (some l) body A S fun e _ S=>
      rV S.h l fun o=>match o with
       | .loop tm ps as bo _ _=>match e with
        | .normal=>tK S l (.loop tm ps as bo .ready none) fun S=>K (.bool true) S
        | .ret=>tK S l (.loop tm ps as bo .done (some .ret)) fun S=>K (.bool false) S
        | .exit id=>tK S l (.loop tm ps as bo .done (some (.exit id))) fun S=>K (.bool false) S
       | _=>false
     | _=>false
    | _=>false
  | _=>false
def env (P:Program) (ov:FuncId->Option (List Value->St->VK->Bool)) (dr:Env->Array Oper->bA->St->(bA->St->Bool)->Bool) (most:Nat) (n:Nat):Env:=
 NA (β:=Env) {P,ov,call:=fun _ _ _ _=>false,round:=fun _ _ _ _=>false,most}
  (fun _ E=>{P,ov,call:=fun f args S K=>match ov f with | some g=>g args S K | none=>Cn E (dr E) f args S K,round:=fun l args S K=>Ie E (dr E) l args S K,most}) n
section
variable{α β:Type}
theorem LB (z:β) (s:Nat->β):pW 0 z s=z:=rfl
theorem Pi (n:Nat) (z:β) (s:Nat->β):pW (n+1) z s=s n:=rfl
theorem wC (z:β) (s:α->List α->β->β):iD z s []=z:=rfl
theorem bU (a:α) (l:List α) (z:β) (s:α->List α->β->β):iD z s (a::l)=s a l (iD z s l):=rfl
theorem Vr (z:β) (s:Nat->β->β):NA z s 0=z:=rfl
theorem aGC (n:Nat) (z:β) (s:Nat->β->β):NA z s (n+1)=s n (NA z s n):=rfl
theorem bH (n:Nat) (k:Nat->Bool):bV n k=k n:=by cases n<;>rfl
theorem oF (n:Int) (k:Int->Bool):DL n k=k n:=by cases n<;>simp [DL,aNB,bH]
theorem pU (b:Bool) (k:Bool->Bool):Cf b k=k b:=by cases b<;>rfl
theorem nH (t:Tr α) (n:Nat) (k:α->Bool):rV t n k=match t.get n with | some x=>k x | none=>false:=by
 induction t generalizing n with
 | leaf=>rfl
 | node v l r ihl ihr=>
  cases n with
  | zero=>cases v<;>rfl
  | succ p=>
   have hd:rV (.node v l r) (p+1) k=(pW (Nat.mod p 2) (rV l (Nat.div p 2) k) fun _=>rV r (Nat.div p 2) k):=rfl;rw [hd];have hm:p%2=0\/p%2=1:=by omega
   rcases hm with hm | hm
   ·have:Nat.mod p 2=0:=hm
    rw [this,LB,ihl];have e1:(p+1) / 2=Nat.div p 2:=by show _=p / 2;omega
    simp only [Tr.get,OR,OV,and_false,if_false,show(p+1)%2=1 by omega,if_true,e1]
   ·have:Nat.mod p 2=1:=hm
    rw [this];show rV r (Nat.div p 2) k=_;rw [ihr];have e1:(p+1) / 2-1=Nat.div p 2:=by show _=p / 2;omega
    simp only [Tr.get,OR,OV,and_false,if_false,show ¬(p+1)%2=1 by omega,e1]
theorem SK (x:α):∀(f:Nat) (t:Tr α) (n:Nat) (k:Tr α->Bool),ZR x f t n k=k (Tr.KB x f t n):=by
 intro f;induction f with
 | zero=>intro t n k;rfl
 | succ f ih=>
  intro t n k
  have hs:ZR x (f+1) t n k=aEW t
   (pW n (k (.node (some x) .leaf .leaf)) fun p=>pW (Nat.mod p 2) (ZR x f .leaf (Nat.div p 2) fun c=>k (.node none c .leaf)) fun _=>ZR x f .leaf (Nat.div p 2) fun c=>k (.node none .leaf c))
   (fun v l r=>pW n (k (.node (some x) l r)) fun p=>pW (Nat.mod p 2) (ZR x f l (Nat.div p 2) fun c=>k (.node v c r)) fun _=>ZR x f r (Nat.div p 2) fun c=>k (.node v l c)):=rfl
  rw [hs];cases t with
  | leaf=>
   cases n with
   | zero=>simp [aEW,Tr.KB,LB]
   | succ p=>
    show(pW (Nat.mod p 2) _ fun _=>_)=_;have hm:p%2=0\/p%2=1:=by omega
    rcases hm with hm | hm
    ·have h0:Nat.mod p 2=0:=hm
     rw [h0,LB,ih];have e1:(p+1) / 2=Nat.div p 2:=by show _=p / 2;omega
     simp [Tr.KB,show(p+1)%2=1 by omega,e1]
    ·have h0:Nat.mod p 2=0+1:=hm
     rw [h0,Pi,ih];have e1:(p+1) / 2-1=Nat.div p 2:=by show _=p / 2;omega
     simp [Tr.KB,show ¬(p+1)%2=1 by omega,e1]
  | node v l r=>
   cases n with
   | zero=>simp [aEW,Tr.KB,LB]
   | succ p=>
    show(pW (Nat.mod p 2) _ fun _=>_)=_;have hm:p%2=0\/p%2=1:=by omega
    rcases hm with hm | hm
    ·have h0:Nat.mod p 2=0:=hm
     rw [h0,LB,ih];have e1:(p+1) / 2=Nat.div p 2:=by show _=p / 2;omega
     simp [Tr.KB,show(p+1)%2=1 by omega,e1]
    ·have h0:Nat.mod p 2=0+1:=hm
     rw [h0,Pi,ih];have e1:(p+1) / 2-1=Nat.div p 2:=by show _=p / 2;omega
     simp [Tr.KB,show ¬(p+1)%2=1 by omega,e1]
theorem Pj (x:α):∀(f:Nat) (t:Tr α) (n m:Nat),n<f->(Tr.KB x f t n).get m=if m=n then some x else t.get m:=by
 intro f;induction f with
 | zero=>intro t n m h;omega
 | succ f ih=>
  intro t n m h;have hl:∀m,(Tr.leaf:Tr α).get m=none:=fun m=>rfl;cases t with
  | leaf=>
   simp only [Tr.KB];by_cases h0:n=0
   ·subst h0
    by_cases hm:m=0<;>simp [Tr.get,hm]
   ·by_cases h1:n%2=1
    ·simp only [h0,h1,if_true,if_false,Tr.get]
     by_cases hm:m=0
     ·subst hm;simp [aN h0]
     ·by_cases h2:m%2=1
      ·rw [aG hm,aK h2,ih _ _ _ (by omega)]
       by_cases e:m=n
       ·subst e;simp
       ·rw [aG e,aG (by omega),hl]
      ·rw [aG hm,aG h2,aG (by omega)]
    ·simp only [h0,h1,if_false,Tr.get]
     by_cases hm:m=0
     ·subst hm;simp [aN h0]
     ·by_cases h2:m%2=1
      ·rw [aG hm,aK h2,aG (by omega)]
      ·rw [aG hm,aG h2,ih _ _ _ (by omega)]
       by_cases e:m=n
       ·subst e;simp
       ·rw [aG e,aG (by omega),hl]
  | node v l r=>
   simp only [Tr.KB];by_cases h0:n=0
   ·subst h0
    by_cases hm:m=0<;>simp [Tr.get,hm]
   ·by_cases h1:n%2=1
    ·simp only [h0,h1,if_true,if_false,Tr.get]
     by_cases hm:m=0
     ·subst hm;simp [aN h0]
     ·by_cases h2:m%2=1
      ·rw [aG hm,aK h2,ih _ _ _ (by omega)]
       by_cases e:m=n
       ·subst e;simp
       ·rw [aG e,aG (by omega),aG hm,aK h2]
      ·rw [aG hm,aG h2,aG (by omega),aG hm,aG h2]
    ·simp only [h0,h1,if_false,Tr.get]
     by_cases hm:m=0
     ·subst hm;simp [aN h0]
     ·by_cases h2:m%2=1
      ·rw [aG hm,aK h2,aG (by omega),aG hm,aK h2]
      ·rw [aG hm,aG h2,ih _ _ _ (by omega)]
       by_cases e:m=n
       ·subst e;simp
       ·rw [aG e,aG (by omega),aG hm,aG h2]
theorem AX (t:Tr α) (n:Nat) (x:α) (m:Nat):(t.put n x).get m=if m=n then some x else t.get m:=Pj x _ t n m (xR n)
theorem aLN (l:List α) (i:Nat) (k:α->Bool):ZS l i k=match l[i]? with | some a=>k a | none=>false:=by
 induction l generalizing i with
 | nil=>rfl
 | cons a l ih=>
  cases i with
  | zero=>rfl
  | succ i=>exact(ih i).trans (by simp)
theorem Pd (v:α) (l:List α) (i:Nat) (k:List α->Bool):aEX v l i k=k (l.set i v):=by
 induction l generalizing i k with
 | nil=>rfl
 | cons a l ih=>
  cases i with
  | zero=>rfl
  | succ i=>exact ih i _
theorem aE2 (l:List α) (k:List α->Bool):aLH l k=k l:=by
 induction l generalizing k with
 | nil=>rfl
 | cons a l ih=>exact ih _
theorem nI (l m:List α) (k:List α->Bool):FV l m k=k (l++m):=by
 induction l generalizing k with
 | nil=>rfl
 | cons a l ih=>exact ih _
theorem HQ (n:Nat) (l:List α) (k:List α->Bool):WB n l k=if n<=l.length then k (l.take n)else false:=by
 induction n generalizing l k with
 | zero=>simp [WB,Vr]
 | succ n ih=>
  cases l with
  | nil=>rfl
  | cons a l=>
   show WB n l (fun t'=>k (a::t'))=_;rw [ih];simp
theorem DR (n:Nat) (l:List α) (k:List α->Bool):NG n l k=if n<=l.length then k (l.drop n)else false:=by
 induction n generalizing l with
 | zero=>simp [NG,Vr]
 | succ n ih=>
  cases l with
  | nil=>rfl
  | cons a l=>
   show NG n l k=_;rw [ih];simp
def aY (off:Nat) (new l:List α):List α:=l.take off++new++l.drop (off+new.length)
theorem aIg (new l:List α) (k:List α->Bool):aA2 new l k=if new.length<=l.length then k (new++l.drop new.length)else false:=by
 induction new generalizing l k with
 | nil=>simp [aA2,wC]
 | cons a new ih=>
  cases l with
  | nil=>rfl
  | cons b l=>
   show aA2 new l (fun t'=>k (a::t'))=_;rw [ih];simp
theorem BQ (off:Nat) (new l:List α) (k:List α->Bool):tP off new l k=if off+new.length<=l.length then k (aY off new l)else false:=by
 induction off generalizing l k with
 | zero=>
  show aA2 new l k=_;rw [aIg];simp [aY]
 | succ off ih=>
  cases l with
  | nil=>show false=_;rw [aG (by simp)]
  | cons b l=>
   show tP off new l (fun t'=>k (b::t'))=_;rw [ih];have:off+1+new.length<=(b::l).length↔off+new.length<=l.length:=by simp;omega
   simp only [this];have e:aY (off+1) new (b::l)=b::aY off new l:=by simp [aY,show off+1+new.length=(off+new.length)+1 by omega]
   rw [e]
theorem HC (off:Nat) (new l:List α) (h:off+new.length<=l.length):(aY off new l).length=l.length:=by simp [aY];omega
theorem sV (off:Nat) (new l:List α) (h:off+new.length<=l.length) (j:Nat):
 (aY off new l)[j]? =if off<=j/\j<off+new.length then new[j-off]? else l[j]? :=by
 unfold aY;by_cases h1:j<off
 ·rw [aG (by omega),BK,gV (by simp;omega),sR,aK h1]
 ·by_cases h2:j<off+new.length
  ·rw [aK (by omega),BK,kQ (by simp;omega),gV (by simp;omega)]
   congr 1;simp;omega
  ·rw [aG (by omega),kQ (by simp;omega),rH]
   congr 1;simp;omega
theorem oE (l:List α) (k:Nat->Bool):KW l k=k l.length:=by
 have h:∀(l:List α) (n:Nat),iD (β:=Nat->Bool) (fun n=>k n) (fun _ _ ih n=>bV (Nat.succ n) ih) l n=k (n+l.length):=by
  intro l;induction l with
  | nil=>intro n;rfl
  | cons a l ih=>
   intro n;rw [bU,bH,ih]
   congr 1;simp;omega
 unfold KW;rw [h,dX]
theorem HD (z:List α) (n:Nat) (k:List α->Bool):aA3 z n k=k (List.replicate n z).flatten:=by
 have h:∀(n:Nat) (acc:List α),NA (β:=List α->Bool) (fun acc=>k acc) (fun _ ih acc=>FV z acc ih) n acc=k ((List.replicate n z).flatten++acc):=by
  intro n;induction n with
  | zero=>intro acc;rfl
  | succ n ih=>
   intro acc;rw [aGC,nI,ih]
   have:(List.replicate n z).flatten++(z++acc)=(List.replicate (n+1) z).flatten++acc:=by
    rw [List.replicate_succ',List.flatten_append];simp
   rw [this]
 unfold aA3;rw [h,OW]
theorem nG (f:α->Bool) (l:List α):xU f l=l.all f:=by
 induction l with
 | nil=>rfl
 | cons a l ih=>
  show gE (f a) (xU f l) false=_;cases h:f a<;>simp [gE,h,ih]
theorem aGA (l:List α) (i:Nat) (k:List α->Bool):aH6 l i k=k (l.eraseIdx i):=by
 induction l generalizing i k with
 | nil=>rfl
 | cons a l ih=>
  cases i with
  | zero=>rfl
  | succ i=>exact ih i _
end
theorem aBh (l:List Nat) (h:Tr jD) (k:Tr jD->Bool):Vi l h k=k (l.foldl (fun h i=>h.put i .dead) h):=by
 induction l generalizing h with
 | nil=>rfl
 | cons i l ih=>
  show ZR .dead (Nat.succ i) h i (fun h=>Vi l h k)=_;rw [SK,ih];rfl
theorem aBi (l:List Nat) (h:Tr jD) (m:Nat):(l.foldl (fun h i=>h.put i jD.dead) h).get m=if m∈l then some .dead else h.get m:=by
 induction l generalizing h with
 | nil=>simp
 | cons i l ih=>
  rw [Oi,ih,AX];by_cases h1:m∈l
  ·simp [h1]
  ·by_cases h2:m=i
   ·simp [h2]
   ·simp [h1,h2]
def St.set (S:St) (i:Nat) (o:jD):St:=⟨S.h.put i o,S.n⟩
def St.new (S:St) (o:jD):St:=⟨S.h.put S.n o,S.n+1⟩
def St.obj (S:St) (i:Nat):Option jD:=S.h.get i
theorem HE (S:St) (i:Nat) (o:jD) (j:Nat):(S.set i o).obj j=if j=i then some o else S.obj j:=AX _ _ _ _
theorem YY (S:St) (o:jD) (j:Nat):(S.new o).obj j=if j=S.n then some o else S.obj j:=AX _ _ _ _
theorem jH (S:St) (o:jD) (k:Nat->St->Bool):zT S o k=k S.n (S.new o):=by simp [zT,SK,bH,St.new,Tr.put]
theorem iB (S:St) (i:Nat) (o:jD) (k:St->Bool):tK S i o k=k (S.set i o):=by simp [tK,SK,St.set,Tr.put]
theorem HT{S:St}{i:Nat}{k:List Value->TypeId->CK->Bool} (h:DM S i k=true):∃vs e c,S.obj i=some (.cells vs e c)/\k vs e c=true:=by
 unfold DM at h;rw [nH]at h;cases ho:S.h.get i with
 | none=>simp [ho]at h
 | some o=>cases o<;>simp [ho]at h;exact⟨_,_,_,ho,h⟩
theorem GB{S:St}{i off n:Nat}{k:List Value->Bool} (h:PS S i off n k=true):
 ∃vs e c,S.obj i=some (.cells vs e c)/\off+n<=vs.length/\k ((vs.drop off).take n)=true:=by
 obtain⟨vs,e,c,ho,h⟩:=HT h;rw [DR]at h;split at h
 ·rw [HQ]at h
  split at h
  ·rename_i h1 h2
   exact⟨vs,e,c,ho,by simp at h2;omega,h⟩
  ·simp at h
 ·simp at h
theorem PX{α:Type}{l:List α}{i:Nat}{k:α->Bool} (h:ZS l i k=true):∃a,l[i]? =some a/\k a=true:=by
 rw [aLN]at h;cases ha:l[i]? with
 | none=>simp [ha]at h
 | some a=>exact⟨a,rfl,by simpa [ha]using h⟩
theorem HU{T:Tm}{i:Nat}{k:Value->Bool} (h:YU T i k=true):∃v,T.t.get i=some v/\k v=true:=by
 unfold YU at h;rw [nH]at h;cases hx:T.t.get i with
 | none=>rw [hx]at h;cases h
 | some x=>rw [hx]at h;exact⟨x,rfl,h⟩
def Tm.put (T:Tm) (i:Nat) (v:Value):Tm:=⟨T.t.put i v,T.n⟩
theorem GC{v:Value}{T:Tm}{i:Nat}{k:Tm->Bool} (h:uU v T i k=true):i<T.n/\k (T.put i v)=true:=by
 unfold uU at h;split at h
 ·rename_i hb
  rw [SK]at h;exact⟨cG hb,h⟩
 ·cases h
theorem aIh{A:bA}{x:Operand}{k:Value->Bool} (h:wA A x k=true):
 ∃v,k v=true/\((∃t,x= .tmp t/\A.tmps.t.get t=some v)\/(x= .const v/\kV v=true)\/(∃g,x= .global g/\g<A.g/\v= .pointer (some ⟨g,0,none⟩))\/(∃f,x= .func f/\v= .func (.func f) #[] #[])):=by
 cases x with
 | tmp t=>obtain⟨a,ha,hk⟩:=HU h;exact⟨a,hk,.inl ⟨t,rfl,ha⟩⟩
 | const v=>
  cases hf:kV v with
  | true=>exact⟨v,by simpa [wA,hf]using h,.inr (.inl ⟨rfl,hf⟩)⟩
  | false=>simp [wA,hf]at h
 | global g=>
  cases hg:Nat.blt g A.g with
  | true=>exact⟨_,by simpa [wA,hg]using h,.inr (.inr (.inl ⟨g,rfl,cG hg,rfl⟩))⟩
  | false=>simp [wA,hg]at h
 | func f=>exact⟨_,h,.inr (.inr (.inr ⟨f,rfl,rfl⟩))⟩
end Go.Am
namespace Go.Am
open Go.RowKit
structure Loc where
 b:Nat
 s:Nat
 e:Nat
 m:Nat
abbrev Rn:=Nat->Option Loc
inductive VR (U:Rn):Value->Value->Prop
 | flat {v:Value} (h:bW v=true):VR U v v
 | ptr {i o:Nat} {L:Loc} (h:U i=some L):VR U (.pointer (some ⟨i,o,none⟩)) (.pointer (some ⟨L.b,L.s+o,none⟩))
 | slice {i o n c:Nat} {L:Loc} (h:U i=some L):VR U (.slice (some ⟨i,o,none⟩) n c) (.slice (some ⟨L.b,L.s+o,none⟩) n c)
 | rW {i o n c c':Nat} {L:Loc} (h:U i=some L) (hc:c<=c') (hn:n<=c) (he:L.s+o+c'*L.m=L.e) (hm:0<L.m):VR U (.slice (some ⟨i,o,some 0⟩) n c) (.slice (some ⟨L.b,L.s+o,none⟩) n c')
 | DP {i c':Nat} {a:Addr}:VR U (.slice (some ⟨i,0,some 1⟩) 0 0) (.slice (some a) 0 c')
 | DQ {b o s:Nat} {sp:Option Nat} (hs:sp=match s with | 0=>none | k+1=>some k):VR U (.slice (some ⟨b,o,some (s+2)⟩) 0 0) (.slice (some ⟨b,o,sp⟩) 0 0)
 | map {i:Nat} {L:Loc} (h:U i=some L):VR U (.map (some i)) (.map (some L.b))
 | func {f:FuncId} {a a' c c':Array Value} (ha:a.size=a'.size) (hc:c.size=c'.size) (h1:∀(k:Nat) (v v':Value),a.toList[k]? =some v->a'.toList[k]? =some v'->VR U v v')
  (h2:∀(k:Nat) (v v':Value),c.toList[k]? =some v->c'.toList[k]? =some v'->VR U v v'):VR U (.func (.func f) a c) (.func (.func f) a' c')
 | yield {l:Nat} {L:Loc} (h:U l=some L):VR U (.func (.yield l) #[] #[]) (.func (.yield L.b) #[] #[])
 | LC {s:String} {v v':Value} (h:VR U v v'):VR U (.func (.method s) ⟨[v]⟩ ⟨[]⟩) (.func (.method s) ⟨[v']⟩ ⟨[]⟩)
 | iface {t:TypeId} {v v':Value} (h:VR U v v'):VR U (.iface t v) (.iface t v')
 | agg {a a':Array Value} (ha:a.size=a'.size) (h1:∀(k:Nat) (v v':Value),a.toList[k]? =some v->a'.toList[k]? =some v'->VR U v v'):VR U (.agg a) (.agg a')
 | tuple {a a':Array Value} (ha:a.size=a'.size) (h1:∀(k:Nat) (v v':Value),a.toList[k]? =some v->a'.toList[k]? =some v'->VR U v v'):VR U (.tuple a) (.tuple a')
def lZ (U:Rn) (l l':List Value):Prop:=l.length=l'.length/\∀(k:Nat) (v v':Value),l[k]? =some v->l'[k]? =some v'->VR U v v'
def TRs (U:Rn) (T:Tm) (l':List Value):Prop:=T.n=l'.length/\∀(k:Nat) (v:Value),T.t.get k=some v->∃v',l'[k]? =some v'/\VR U v v'
theorem TRs.get{U:Rn}{T:Tm}{l':List Value} (h:TRs U T l'){k:Nat}{v:Value} (hv:T.t.get k=some v):∃v',l'[k]? =some v'/\VR U v v':=h.2 k v hv
theorem TRs.set{U:Rn}{T:Tm}{l':List Value} (h:TRs U T l'){i:Nat} (hi:i<T.n){v v':Value} (hv:VR U v v'):TRs U (T.put i v) (l'.set i v'):=by
 refine⟨by simpa [Tm.put]using h.1,fun k x hx=>?_⟩;have hx:(T.t.put i v).get k=some x:=hx;rw [AX]at hx;have hl:i<l'.length:=by rw [<-h.1];exact hi
 by_cases e:k=i
 ·subst e
  rw [aK rfl]at hx;injection hx with hx;subst hx;exact⟨v',by simp [hl],hv⟩
 ·rw [aG e]at hx
  obtain⟨y,hy,hr⟩:=h.2 k x hx;exact⟨y,by rw [IP (aN e)];exact hy,hr⟩
def Ext (U U':Rn):Prop:=∀i L,U i=some L->U' i=some L
theorem Ext.refl (U:Rn):Ext U U:=fun _ _ h=>h
theorem Ext.trans{a b c:Rn} (h:Ext a b) (k:Ext b c):Ext a c:=fun i L e=>k i L (h i L e)
theorem VR.mono{U U':Rn} (he:Ext U U'){v v':Value} (h:VR U v v'):VR U' v v':=by
 induction h with
 | flat h=>exact .flat h
 | ptr h=>exact .ptr (he _ _ h)
 | slice h=>exact .slice (he _ _ h)
 | rW h hc hn hh hm=>exact .rW (he _ _ h) hc hn hh hm
 | DP=>exact .DP
 | DQ hs=>exact .DQ hs
 | map h=>exact .map (he _ _ h)
 | func ha hc _ _ i1 i2=>exact .func ha hc i1 i2
 | yield h=>exact .yield (he _ _ h)
 | LC _ ih=>exact .LC ih
 | iface _ ih=>exact .iface ih
 | agg ha _ ih=>exact .agg ha ih
 | tuple ha _ ih=>exact .tuple ha ih
theorem lZ.mono{U U':Rn} (he:Ext U U'){l l':List Value} (h:lZ U l l'):lZ U' l l':=⟨h.1,fun k v v' a b=>(h.2 k v v' a b).mono he⟩
theorem TRs.mono{U U':Rn} (he:Ext U U'){T:Tm}{l':List Value} (h:TRs U T l'):TRs U' T l':=⟨h.1,fun k v hv=>let⟨v',a,b⟩:=h.2 k v hv;⟨v',a,b.mono he⟩⟩
theorem lZ.nil (U:Rn):lZ U [] []:=⟨rfl,by simp⟩
theorem lZ.cons{U:Rn}{v v':Value}{l l':List Value} (h:VR U v v') (t:lZ U l l'):lZ U (v::l) (v'::l'):=by
 refine⟨by simp [t.1],fun k x x' a b=>?_⟩;cases k with
 | zero=>simp at a b;subst a b;exact h
 | succ k=>simp at a b;exact t.2 k x x' a b
theorem lZ.head{U:Rn}{v v':Value}{l l':List Value} (h:lZ U (v::l) (v'::l')):VR U v v':=h.2 0 v v' rfl rfl
theorem lZ.tail{U:Rn}{v v':Value}{l l':List Value} (h:lZ U (v::l) (v'::l')):lZ U l l':=
 ⟨by simpa using h.1,fun k x x' a b=>h.2 (k+1) x x' (by simpa using a) (by simpa using b)⟩
theorem lZ.lE{U:Rn}{l':List Value} (h:lZ U [] l'):l'=[]:=sO (by simpa using h.1.symm)
theorem lZ.dM{U:Rn}{v:Value}{l l':List Value} (h:lZ U (v::l) l'):∃v' t',l'=v'::t'/\VR U v v'/\lZ U l t':=by
 cases l' with
 | nil=>have:=h.1;simp at this
 | cons v' t'=>exact⟨v',t',rfl,h.head,h.tail⟩
theorem lZ.get{U:Rn}{l l':List Value} (h:lZ U l l'){k:Nat}{v:Value} (hv:l[k]? =some v):∃v',l'[k]? =some v'/\VR U v v':=by
 have hk:k<l'.length:=by rw [<-h.1];exact(dK.1 hv).1
 exact⟨l'[k],aQ hk,h.2 k v _ hv (aQ hk)⟩
theorem lZ.get_none{U:Rn}{l l':List Value} (h:lZ U l l'){k:Nat} (hv:l[k]? =none):l'[k]? =none:=by
 rw [List.getElem?_eq_none_iff]at*;rw [<-h.1];exact hv
theorem lZ.append{U:Rn}{l l' m m':List Value} (h:lZ U l l') (k:lZ U m m'):lZ U (l++m) (l'++m'):=by
 refine⟨by simp [h.1,k.1],fun j v v' a b=>?_⟩;by_cases hj:j<l.length
 ·rw [gV hj]at a
  rw [gV (by rw [<-h.1];exact hj)]at b;exact h.2 j v v' a b
 ·rw [kQ (by omega)]at a
  rw [kQ (by rw [<-h.1];omega),<-h.1]at b;exact k.2 _ v v' a b
theorem lZ.take{U:Rn}{l l':List Value} (h:lZ U l l') (n:Nat):lZ U (l.take n) (l'.take n):=by
 refine⟨by simp [h.1],fun j v v' a b=>?_⟩;rw [sR]at a b;split at a
 ·rename_i hj;rw [aK hj]at b;exact h.2 j v v' a b
 ·simp at a
theorem lZ.drop{U:Rn}{l l':List Value} (h:lZ U l l') (n:Nat):lZ U (l.drop n) (l'.drop n):=by
 refine⟨by simp [h.1],fun j v v' a b=>?_⟩;rw [rH]at a b;exact h.2 _ v v' a b
theorem lZ.aY{U:Rn}{l l' n n':List Value} (h:lZ U l l') (k:lZ U n n') (off:Nat):lZ U (aY off n l) (aY off n' l'):=by
 unfold Am.aY;rw [<-k.1];exact((h.take off).append k).append (h.drop _)
theorem lZ.flat{U:Rn}{l:List Value} (h:∀v∈l,bW v=true):lZ U l l:=
 ⟨rfl,fun k v v' a b=>by rw [a]at b;injection b with b;subst b;exact .flat (h v (BJ a))⟩
theorem lZ.flatten{U:Rn}{z z':List Value} (h:lZ U z z') (n:Nat):lZ U (List.replicate n z).flatten (List.replicate n z').flatten:=by
 induction n with
 | zero=>exact .nil U
 | succ n ih=>simp only [IQ,OT];exact h.append ih
theorem VR.kV{U:Rn}{v:Value} (h:kV v=true):VR U v v:=by
 cases v<;>first
  | exact .flat h
  | (rename_i cs;exact .agg rfl (lZ.flat (U:=U) (dL.1 h)).2)
theorem VR.of_flat{U:Rn}{v v':Value} (h:VR U v v') (hf:bW v=true):v'=v:=by
 cases h<;>first | rfl | simp [bW]at hf
theorem VR.NH{U:Rn}{a:Array Value}{v':Value} (h:VR U (.agg a) v'):∃a',v'= .agg a'/\lZ U a.toList a'.toList:=by
 cases h with
 | flat h=>simp [bW]at h
 | agg ha h1=>exact⟨_,rfl,by simpa using ha,h1⟩
theorem VR.QB{U:Rn}{a:Array Value}{v':Value} (h:VR U (.tuple a) v'):∃a',v'= .tuple a'/\lZ U a.toList a'.toList:=by
 cases h with
 | flat h=>simp [bW]at h
 | tuple ha h1=>exact⟨_,rfl,by simpa using ha,h1⟩
theorem VR.Yb{U:Rn}{a a':Array Value} (h:lZ U a.toList a'.toList):VR U (.agg a) (.agg a'):= .agg (by simpa using h.1) h.2
theorem VR.pZ{U:Rn}{a a':Array Value} (h:lZ U a.toList a'.toList):VR U (.tuple a) (.tuple a'):= .tuple (by simpa using h.1) h.2
theorem VR.aIa{U:Rn}{v v':Value} (h:VR U v v') (hf:Am.kV v=true):v'=v:=by
 by_cases ha:∃a,v= .agg a
 ·obtain⟨a,rfl⟩:=ha
  obtain⟨a',rfl,hl⟩:=h.NH;have RY:∀x∈a.toList,bW x=true:=dL.1 hf
  have:a'.toList=a.toList:=by
   apply xQ;intro k;cases hk:a.toList[k]? with
   | none=>exact hl.get_none hk
   | some x=>
    obtain⟨x',Mx,hr⟩:=hl.get hk;rw [Mx,hr.of_flat (RY x (BJ hk))]
  rw [jF.1 this]
 ·refine h.of_flat ?_
  cases v<;>first | exact hf | (exact aX ⟨_,rfl⟩ ha)
theorem VR.lD{U:Rn}{v v':Value} (h:VR U v v') (ho:lD v=true):v'.oneCell'=true:=by
 cases h<;>first | rfl | (simp [Am.lD]at ho;done) | (rename_i h;revert ho;cases v<;>simp [Am.lD,Value.oneCell'])
section
variable (P:Program) (w0:World)
def Ph (n:Nat) (fz:Nat×Nat):Prop:=∀x,x<n->¬(fz.1<=x/\x<fz.2)
def Yt (L:Loc) (cs:Array Value) (n:Nat) (fz:Nat×Nat) (e t:TypeId):CK->Prop
 | .ro=>cQ P e=some L.m
 | .rs=>cQ P e=some L.m/\∀j,j<n->¬(fz.1<=L.s+j/\L.s+j<fz.2)
 | .exact=>w0.heap.size<=L.b/\L.s=0/\cs.size=n/\Ph cs.size fz/\t=e
 | .grown _=>w0.heap.size<=L.b/\Ph cs.size fz/\L.e=cs.size/\cQ P e=some L.m/\t=e
 | .uT=>w0.heap.size<=L.b/\cQ P e=some L.m/\t=e
def WH (U:Rn) (e e':MapEntry):Prop:=e'.key=e.key/\kV e.key=true/\e'.born=e.born/\VR U e.val e'.val
def iA (U:Rn) (l l':List MapEntry):Prop:=l.length=l'.length/\∀(k:Nat) (e e':MapEntry),l[k]? =some e->l'[k]? =some e'->WH U e e'
def IV (U:Rn) (w:World) (i:Nat):jD->Prop
 | .dead=>True
 | .cells vs e k=>∃L cs t fz,U i=some L/\w.heap[L.b]? =some (.cells cs t fz)/\(∀(j:Nat) (v:Value),vs[j]? =some v->∃v',cs[L.s+j]? =some v'/\VR U v v')/\Yt P w0 L cs vs.length fz e t k
 | .map es c=>∃L jT,U i=some L/\w0.heap.size<=L.b/\w.heap[L.b]? =some (.map jT c)/\iA U es jT.toList
 | .loop tmps params assign body st pe=>∃L r,U i=some L/\w0.heap.size<=L.b/\w.heap[L.b]? =some (.loop r)/\r.state=st/\r.pending=pe/\r.params.toList=params/\r.assign=assign/\r.body=body/\TRs U tmps r.tmps.toList
 | .defers=>∃L,U i=some L/\w0.heap.size<=L.b/\w.heap[L.b]? =some (.deferred (some []))
 | .iter none _ _ _=>∃L a b c,(U i=some L/\L.s=0)/\w0.heap.size<=L.b/\w.heap[L.b]? =some (.mapIter none a b c)
 | .iter (some r) since seen last=>∃L M,(U i=some L/\L.s=0)/\w0.heap.size<=L.b/\U r=some M/\w.heap[L.b]? =some (.mapIter (some M.b) since ⟨seen⟩ last)
def jD.BS:jD->Bool
 | .dead=>true
 | _=>false
def jD.reads:jD->Bool
 | .cells _ _ .ro | .cells _ _ .uT | .cells _ _ .rs=>true
 | _=>false
def jD.olds:jD->List Nat
 | .cells _ _ (.grown l)=>l
 | _=>[]
def aIc (i j:Nat) (a b:jD):Prop:=(a.reads=true/\b.reads=true)\/j∈a.olds\/i∈b.olds
def aBe (U:Rn) (j:Nat) (vs:List Value) (i:Nat) (o:jD):Prop:=
 o= .dead\/∃ws e,o= .cells ws e .uT/\∀L M,U j=some L->U i=some M->M.b=L.b->M.s+ws.length<=L.s+vs.length
structure Rel (U:Rn) (S:St) (w:World):Prop where
 Pe:∀g,g<P.globals.size->∃L,U g=some L/\L.b=g/\L.s=0
 PB:∀i o,S.obj i=some o->IV P w0 U w i o
 dom:∀i,S.n<=i->U i=none
 lt:∀i o,S.obj i=some o->i<S.n
 loc:∀i L,U i=some L->L.b<w.heap.size
 sep:∀i j a b L M,i≠j->S.obj i=some a->S.obj j=some b->a.BS=false->b.BS=false->U i=some L->U j=some M->L.b=M.b->aIc i j a b
 old:∀j vs e olds,S.obj j=some (.cells vs e (.grown olds))->∀i∈olds,i<S.n/\∀o,S.obj i=some o->aBe U j vs i o
 base:Below w0.heap.size w0 w
end
theorem iA.mono{U U':Rn} (he:Ext U U'){l l':List MapEntry} (h:iA U l l'):iA U' l l':=
 ⟨h.1,fun k e e' a b=>let⟨x,y,z,u⟩:=h.2 k e e' a b;⟨x,y,z,u.mono he⟩⟩
theorem IV.frame{P:Program}{w0:World}{U U':Rn}{w w':World}{i:Nat}{o:jD} (he:Ext U U') (hb:∀L,U i=some L->w'.heap[L.b]? =w.heap[L.b]?) (h:IV P w0 U w i o):IV P w0 U' w' i o:=by
 cases o with
 | dead=>trivial
 | cells vs e k=>
  obtain⟨L,cs,t,fz,h1,h2,h3,h4⟩:=h;exact⟨L,cs,t,fz,he _ _ h1,(hb L h1).trans h2,fun j v hj=>let⟨v',a,b⟩:=h3 j v hj;⟨v',a,b.mono he⟩,h4⟩
 | map es c=>
  obtain⟨L,jT,h1,h2,h3,h4⟩:=h;exact⟨L,jT,he _ _ h1,h2,(hb L h1).trans h3,h4.mono he⟩
 | loop tmps params assign body st pe=>
  obtain⟨L,r,h1,h2,h3,h4,h5,h6,h7,h8,h9⟩:=h;exact⟨L,r,he _ _ h1,h2,(hb L h1).trans h3,h4,h5,h6,h7,h8,h9.mono he⟩
 | defers=>
  obtain⟨L,h1,h2,h3⟩:=h;exact⟨L,he _ _ h1,h2,(hb L h1).trans h3⟩
 | iter m since seen last=>
  cases m with
  | none=>obtain⟨L,a,b,c,h1,h2,h3⟩:=h;exact⟨L,a,b,c,⟨he _ _ h1.1,h1.2⟩,h2,(hb L h1.1).trans h3⟩
  | some r=>obtain⟨L,M,h1,h2,h3,h4⟩:=h;exact⟨L,M,⟨he _ _ h1.1,h1.2⟩,h2,he _ _ h3,(hb L h1.1).trans h4⟩
theorem IV.loc{P:Program}{w0:World}{U:Rn}{w:World}{i:Nat}{o:jD} (h:IV P w0 U w i o) (hd:o.BS=false):∃L,U i=some L:=by
 cases o with
 | dead=>cases hd
 | cells vs e k=>obtain⟨L,_,_,_,h1,_⟩:=h;exact⟨L,h1⟩
 | map es c=>obtain⟨L,_,h1,_⟩:=h;exact⟨L,h1⟩
 | loop _ _ _ _ _ _=>obtain⟨L,_,h1,_⟩:=h;exact⟨L,h1⟩
 | defers=>obtain⟨L,h1,_⟩:=h;exact⟨L,h1⟩
 | iter m since seen last=>cases m with
  | none=>obtain⟨L,_,_,_,h1,_⟩:=h;exact⟨L,h1.1⟩
  | some r=>obtain⟨L,_,h1,_⟩:=h;exact⟨L,h1.1⟩
def Fr (U:Rn) (w w':World):Prop:=w.heap.size<=w'.heap.size/\∀c,c<w.heap.size->(∀i L,U i=some L->L.b≠c)->w'.heap[c]? =w.heap[c]?
def Nw (U U':Rn) (w:World):Prop:=∀i L,U' i=some L->U i=some L\/w.heap.size<=L.b\/∃j M,U j=some M/\M.b=L.b
structure xZ (U:Rn) (w:World) (U':Rn) (w':World):Prop where
 ext:Ext U U'
 fr:Fr U w w'
 nw:Nw U U' w
theorem xZ.refl (U:Rn) (w:World):xZ U w U w:=⟨.refl U,⟨bO _,fun _ _ _=>rfl⟩,fun _ _ h=> .inl h⟩
theorem xZ.trans{U U1 U2:Rn}{w w1 w2:World} (h:xZ U w U1 w1) (k:xZ U1 w1 U2 w2):xZ U w U2 w2:=by
 refine⟨h.ext.trans k.ext,⟨zR h.fr.1 k.fr.1,fun c hc hn=>?_⟩,fun i L hi=>?_⟩
 ·rw [k.fr.2 c (DJ hc h.fr.1) (fun i L hi=>?_),h.fr.2 c hc hn]
  rcases h.nw i L hi with h1 | h1 | ⟨j,M,h1,h2⟩
  ·exact hn i L h1
  ·omega
  ·rw [<-h2];exact hn j M h1
 ·rcases k.nw i L hi with h1 | h1 | ⟨j,M,h1,h2⟩
  ·exact h.nw i L h1
  ·exact .inr (.inl (zR h.fr.1 h1))
  ·rcases h.nw j M h1 with h3 | h3 | ⟨q,N,h3,h4⟩
   ·exact .inr (.inr ⟨j,M,h3,h2⟩)
   ·exact .inr (.inl (by omega))
   ·exact .inr (.inr ⟨q,N,h3,by omega⟩)
def Rn.put (U:Rn) (i:Nat) (L:Loc):Rn:=fun j=>if j=i then some L else U j
theorem Rn.SI{U:Rn}{i:Nat}{L:Loc} (h:U i=none):Ext U (U.put i L):=fun j M hj=>by
 unfold Rn.put;by_cases e:j=i
 ·subst e;rw [h]at hj;cases hj
 ·rw [aG e];exact hj
theorem Rn.mW (U:Rn) (i:Nat) (L:Loc):U.put i L i=some L:=aK rfl
section
variable{P:Program}{w0:World}{U:Rn}{S:St}{w:World}
theorem Rel.new (h:Rel P w0 U S w) (o:jD) (ob:Obj) (L:Loc) (hL:L.b=w.heap.size)
 (ho:∀U':Rn,Ext U U'->U' S.n=some L->IV P w0 U' (w.alloc ob) S.n o)
 (hold:∀i∈o.olds,i<S.n/\∀x,S.obj i=some x->x= .dead\/∃ws e,x= .cells ws e .uT):
 Rel P w0 (U.put S.n L) (S.new o) (w.alloc ob)/\xZ U w (U.put S.n L) (w.alloc ob):=by
 have TX:=h.dom S.n (bO _);have he:Ext U (U.put S.n L):=Rn.SI TX;have hold:∀k,k<w.heap.size->(w.alloc ob).heap[k]? =w.heap[k]? :=fun k hk=>by show(w.heap.push ob)[k]? =_;rw [Xo,aG (by omega)]
 have hsz:(w.alloc ob).heap.size=w.heap.size+1:=Xw _
 have wB:∀j M,U.put S.n L j=some M->(j=S.n/\M=L)\/(j≠S.n/\U j=some M):=fun j M hj=>by
  unfold Rn.put at hj;by_cases e:j=S.n
  ·rw [aK e]at hj;injection hj with hj;exact .inl ⟨e,hj.symm⟩
  ·rw [aG e]at hj;exact .inr ⟨e,hj⟩
 have vJ:∀j x,(S.new o).obj j=some x->(j=S.n/\x=o)\/(j≠S.n/\S.obj j=some x):=fun j x hx=>by
  rw [YY]at hx;by_cases e:j=S.n
  ·rw [aK e]at hx;injection hx with hx;exact .inl ⟨e,hx.symm⟩
  ·rw [aG e]at hx;exact .inr ⟨e,hx⟩
 refine⟨⟨fun g hg=>let⟨M,h1,h2⟩:=h.Pe g hg;⟨M,he _ _ h1,h2⟩,fun j x hx=>?_,fun j hj=>?_,fun j x hx=>?_,fun j M hj=>?_,fun i j a b M N Tt ha hb hda hdb hM hN Tq=>?_,fun j vs e olds hj i hi=>?_,?_⟩,he,⟨by omega,fun c hc _=>hold c hc⟩,fun j M hj=>?_⟩
 ·rcases vJ j x hx with ⟨e,ex⟩ | ⟨e,hx⟩
  ·subst e ex;exact ho _ he (Rn.mW _ _ _)
  ·exact(h.PB j x hx).frame he fun M hM=>hold _ (h.loc j M hM)
 ·have Yn:S.n+1<=j:=hj
  unfold Rn.put;rw [aG (by omega)];exact h.dom j (by omega)
 ·rcases vJ j x hx with ⟨e,_⟩ | ⟨_,hx⟩
  ·subst e;exact xR _
  ·exact sS (h.lt j x hx)
 ·rcases wB j M hj with ⟨_,e⟩ | ⟨_,hM⟩
  ·subst e;omega
  ·have:=h.loc j M hM;omega
 ·rcases wB i M hM with ⟨ei,eM⟩ | ⟨ei,DH⟩<;>rcases wB j N hN with ⟨ej,eN⟩ | ⟨ej,hN'⟩
  ·omega
  ·have:=h.loc j N hN';rw [eM]at Tq;omega
  ·have:=h.loc i M DH;rw [eN]at Tq;omega
  ·rcases vJ i a ha with ⟨e,_⟩ | ⟨_,ha'⟩
   ·exact aX e ei
   ·rcases vJ j b hb with ⟨e,_⟩ | ⟨_,TV⟩
    ·exact aX e ej
    ·exact h.sep i j a b M N Tt ha' TV hda hdb DH hN' Tq
 ·rcases vJ j _ hj with ⟨e1,e2⟩ | ⟨e1,Yn⟩
  ·subst e1 e2
   obtain⟨h1,h2⟩:=hold i hi;refine⟨sS h1,fun x hx=>?_⟩;rcases vJ i x hx with ⟨e3,_⟩ | ⟨_,Mx⟩
   ·omega
   ·rcases h2 x Mx with h3 | ⟨ws,e',h3⟩
    ·exact .inl h3
    ·refine .inr ⟨ws,e',h3,fun L1 M hL1 hM hb=>?_⟩
     rcases wB _ _ hL1 with ⟨_,e4⟩ | ⟨e4,_⟩
     ·rcases wB _ _ hM with ⟨e5,_⟩ | ⟨_,DH⟩
      ·omega
      ·have:=h.loc i M DH;rw [e4]at hb;omega
     ·exact aX rfl e4
  ·obtain⟨h1,h2⟩:=h.old j vs e olds Yn i hi
   refine⟨sS h1,fun x hx=>?_⟩;rcases vJ i x hx with ⟨e3,_⟩ | ⟨e3,Mx⟩
   ·omega
   ·rcases h2 x Mx with h3 | ⟨ws,e',h3,h4⟩
    ·exact .inl h3
    ·refine .inr ⟨ws,e',h3,fun L1 M hL1 hM hb=>?_⟩
     rcases wB _ _ hL1 with ⟨e4,_⟩ | ⟨_,aOv⟩
     ·exact aX e4 e1
     ·rcases wB _ _ hM with ⟨e5,_⟩ | ⟨_,DH⟩
      ·exact aX e5 e3
      ·exact h4 L1 M aOv DH hb
 ·exact⟨h.base.os,h.base.tape,h.base.output,by have:=h.base.size;omega,fun k hk=>(hold k (DJ hk h.base.size)).trans (h.base.block k hk)⟩
 ·rcases wB j M hj with ⟨_,e⟩ | ⟨_,hM⟩
  ·subst e;exact .inr (.inl (by omega))
  ·exact .inl hM
theorem Rel.drew (h:Rel P w0 U S w):Rel P w0 U S w.drew:=
 ⟨h.Pe,fun i o hi=>(h.PB i o hi).frame (.refl U) fun _ _=>rfl,h.dom,h.lt,h.loc,h.sep,h.old,h.base.os,h.base.tape,h.base.output,h.base.size,h.base.block⟩
theorem xZ.drew (U:Rn) (w:World):xZ U w U w.drew:=⟨.refl U,⟨bO _,fun _ _ _=>rfl⟩,fun _ _ h=> .inl h⟩
theorem Rel.aJ (h:Rel P w0 U S w){S':St}{w':World}{b:Nat} (hb:w0.heap.size<=b) (Th:∃i L,U i=some L/\L.b=b) (hn:S'.n=S.n)
 (hsz:w'.heap.size=w.heap.size) (aDp:∀c,c≠b->w'.heap[c]? =w.heap[c]?) (hos:w'.os=w.os) (aQx:w'.tape=w.tape) (aOw:w'.output=w.output)
 (vJ:∀j x,S'.obj j=some x->(x.BS=true/\j<S.n)\/(S.obj j=some x/\∀L,U j=some L->L.b≠b)\/(j<S.n/\IV P w0 U w' j x))
 (aSl:∀i j x y L M,i≠j->S'.obj i=some x->S'.obj j=some y->x.BS=false->y.BS=false->U i=some L->U j=some M->L.b=M.b->aIc i j x y)
 (hold:∀j vs e olds,S'.obj j=some (.cells vs e (.grown olds))->∀i∈olds,i<S.n/\∀o,S'.obj i=some o->aBe U j vs i o):
 Rel P w0 U S' w'/\xZ U w U w':=by
 refine⟨⟨h.Pe,fun j x hx=>?_,fun j hj=>h.dom j (by omega),fun j x hx=>?_,fun j L hj=>by rw [hsz];exact h.loc j L hj,aSl,fun j vs e olds hj i hi=>by rw [hn];exact hold j vs e olds hj i hi,?_⟩,.refl U,⟨by omega,fun c _ hc=>?_⟩,fun _ _ h=> .inl h⟩
 ·rcases vJ j x hx with ⟨hd,_⟩ | ⟨Mx,hL⟩ | ⟨_,hr⟩
  ·cases x<;>simp [jD.BS]at hd;trivial
  ·exact(h.PB j x Mx).frame (.refl U) fun L hL'=>aDp _ (hL L hL')
  ·exact hr
 ·rw [hn]
  rcases vJ j x hx with ⟨_,hl⟩ | ⟨Mx,_⟩ | ⟨hl,_⟩
  ·exact hl
  ·exact h.lt j x Mx
  ·exact hl
 ·exact⟨hos.trans h.base.os,aQx.trans h.base.tape,aOw.trans h.base.output,by have:=h.base.size;omega,fun k hk=>(aDp k (by omega)).trans (h.base.block k hk)⟩
 ·obtain⟨i,L,hi,e⟩:=Th
  exact aDp c (fun e'=>hc i L hi (by omega))
end
theorem Il (s:ByteArray):s.toList=s.data.toList:=by
 have h:∀(n i:Nat) (r:List UInt8),s.size-i=n->ByteArray.toList.loop s i r=r.reverse++s.data.toList.drop i:=by
  intro n;induction n with
  | zero=>
   intro i r hn;unfold ByteArray.toList.loop;have:¬i<s.size:=by omega
   rw [aG this,Xl (by show s.data.toList.length<=i;have:s.size=s.data.toList.length:=rfl;omega),OW]
  | succ n ih=>
   intro i r hn;unfold ByteArray.toList.loop;have hi:i<s.size:=by omega
   rw [aK hi,ih (i+1) _ (by omega)];have hl:i<s.data.toList.length:=hi;rw [mE hl];have e:s.data[i]! =s.data.toList[i]:=by rw [getElem!_pos s.data i hi];rfl
   simp [ByteArray.get!,e]
 have:=h s.size 0 [] (by omega);simpa [ByteArray.toList]using this
section
variable{K:Value->Bool}
theorem WO (x y:Int):ltI x y=decide (x<y):=by
 cases x<;>cases y<;>simp only [ltI,Nat.blt]<;>(rw [Oj];simp only [decide_eq_true_eq,Nat.ble_eq];(try simp);omega)
theorem RZ (x y:Int):eqI x y=(x==y):=by
 cases x<;>cases y<;>simp only [eqI]<;>(rw [Oj];simp only [Nat.beq_eq,beq_iff_eq];(try simp);try omega)
theorem LA{j k:IntKind} (h:FW j k=true):j=k:=by cases j<;>cases k<;>first | rfl | (simp [FW]at h)
theorem Ex (k:IntKind) (n:Int) (h0:k.min<=n) (h1:n<=k.max):k.wrap n=n:=by
 cases k<;>simp [IntKind.min,IntKind.max,IntKind.bits,IntKind.signed]at h0 h1<;>simp [IntKind.wrap,IntKind.bits,IntKind.signed]<;>omega
theorem KZ (k:IntKind) (n:Int):tC k n=k.wrap n:=by
 have hb:∀m c:Nat,Nat.blt m c=true->m<c:=fun m c h=>cG h;have e1:IntKind.i64.min= -9223372036854775808:=by decide
 have e2:IntKind.i64.max=9223372036854775807:=by decide
 have e3:IntKind.u64.min=0:=by decide
 have e4:IntKind.u64.max=18446744073709551615:=by decide
 have e5:IntKind.u8.min=0:=by decide
 have e6:IntKind.u8.max=255:=by decide
 cases k
 case i64=>
  cases n with
  | ofNat m=>
   unfold tC;dsimp only;split
   ·rename_i h;have:=hb _ _ h;exact(Ex .i64 (m:Int) (by omega) (by omega)).symm
   ·rfl
  | negSucc m=>
   unfold tC;dsimp only;split
   ·rename_i h;have:=hb _ _ h;exact(Ex .i64 (Int.negSucc m) (by omega) (by omega)).symm
   ·rfl
 case u64=>
  cases n with
  | ofNat m=>
   unfold tC;dsimp only;split
   ·rename_i h;have:=hb _ _ h;exact(Ex .u64 (m:Int) (by omega) (by omega)).symm
   ·rfl
  | negSucc m=>rfl
 case u8=>
  cases n with
  | ofNat m=>
   unfold tC;dsimp only;split
   ·rename_i h;have:=hb _ _ h;exact(Ex .u8 (m:Int) (by omega) (by omega)).symm
   ·rfl
  | negSucc m=>rfl
 all_goals rfl
theorem Zb (k:IntKind) (n:Int):OY k n K=K (.int k (k.wrap n)):=by simp [OY,oF,KZ]
theorem rZ (b:Bool):oY b K=K (.bool b):=by simp [oY,pU]
theorem Uf{op:BinOp}{k:IntKind}{x y:Int} (h:RT op k x y K=true):
 ∃v,K v=true/\bW v=true/\op≠ .shl/\op≠ .shr/\∀(P:Program) (t:TypeId) (w:World),(binOp op t (.int k x) (.int k y)).run P w= .ok v w:=by
 have ea:∀a b:Int,Int.add a b=a+b:=fun _ _=>rfl;have es:∀a b:Int,Int.sub a b=a-b:=fun _ _=>rfl;have em:∀a b:Int,Int.mul a b=a*b:=fun _ _=>rfl;cases op<;>simp only [RT,Zb,rZ,oF,WO,RZ,ea,es,em]at h
 case quo=>
  split at h
  ·cases h
  ·rename_i hy
   have hy':y≠0:=by simpa using hy
   exact⟨_,h,rfl,by simp,by simp,fun P t w=>by simp [binOp,Op.intDiv,hy']⟩
 case rem=>
  split at h
  ·cases h
  ·rename_i hy
   have hy':y≠0:=by simpa using hy
   exact⟨_,h,rfl,by simp,by simp,fun P t w=>by simp [binOp,Op.intDiv,hy']⟩
 all_goals first
  | cases h;done
  | exact⟨_,h,rfl,by simp,by simp,fun P t w=>by first | (simp [binOp,Op.intArith,Op.intBits,Op.intCmp,bne];done) | (simp [binOp,Op.intCmp];rw [Oj];simp)⟩
theorem Ey{op:BinOp}{k k':IntKind}{x y:Int} (h:Cg op k x y K=true):
 ∃v,K v=true/\bW v=true/\∀(P:Program) (t:TypeId) (w:World),(binOp op t (.int k x) (.int k' y)).run P w= .ok v w:=by
 unfold Cg at h;rw [WO]at h;split at h
 ·cases h
 ·rename_i hy
  have hy':¬y<0:=by simpa using hy
  cases op<;>simp only [Zb,oF]at h<;>first
   | cases h;done
   | exact⟨_,h,rfl,fun P t w=>by simp [binOp,Op.shift,hy']⟩
end
section
variable{K:Value->Bool}
theorem YZ (a b:UInt8):Nat.beq a.toNat b.toNat=true↔a=b:=by
 rw [Nat.beq_eq];exact⟨fun h=>UInt8.toNat_inj.1 h,fun h=>by rw [h]⟩
theorem SC (a b:List UInt8):Ov a b=(a==b):=by
 induction a generalizing b with
 | nil=>cases b<;>rfl
 | cons x a ih=>
  cases b with
  | nil=>rfl
  | cons y b=>
   show(match Nat.beq x.toNat y.toNat with | true=>Ov a b | false=>false)=_;cases h:Nat.beq x.toNat y.toNat with
   | true=>simp only [ih];have:=(YZ x y).1 h;subst this;simp
   | false=>
    have:x≠y:=fun e=>by rw [(YZ x y).2 e]at h;cases h
    simp [this]
theorem aFa (a b:List UInt8):aGx a b=Op.bytesLess a b:=by
 induction a generalizing b with
 | nil=>cases b<;>rfl
 | cons x a ih=>
  cases b with
  | nil=>rfl
  | cons y b=>
   show(match Nat.blt x.toNat y.toNat with | true=>true | false=>match Nat.beq x.toNat y.toNat with | true=>aGx a b | false=>false)=_;simp only [Op.bytesLess];cases h:Nat.blt x.toNat y.toNat with
   | true=>
    have:x<y:=by rw [UInt8.lt_iff_toNat_lt];have:=cG h;omega
    simp [this]
   | false=>
    have:¬x<y:=by
     rw [UInt8.lt_iff_toNat_lt];intro hh;have:Nat.blt x.toNat y.toNat=true:=nT hh;rw [this]at h;cases h
    cases h2:Nat.beq x.toNat y.toNat with
    | true=>have e:=(YZ x y).1 h2;subst e;simp [ih]
    | false=>
     have e:x≠y:=fun e=>by rw [(YZ x y).2 e]at h2;cases h2
     simp [this,e]
theorem aGQ (a b:ByteArray):a++b=⟨⟨a.data.toList++b.data.toList⟩⟩:=by
 apply ByteArray.ext;apply jF.1;simp
theorem Ug{op:BinOp}{x y:ByteArray} (h:Xx op x y K=true):
 ∃v,K v=true/\bW v=true/\∀(P:Program) (t:TypeId) (w:World),(binOp op t (.string x) (.string y)).run P w= .ok v w:=by
 cases op<;>simp only [Xx,rZ,SC,aFa]at h
 case add=>
  simp only [oE]at h;split at h
  ·rename_i hb
   rw [nI]at h;have hlt:x.size+y.size<9223372036854775808:=by have:=cG hb;have e1:x.size=x.data.toList.length:=rfl;have e2:y.size=y.data.toList.length:=rfl;omega
   refine⟨_,h,rfl,fun P t w=>?_⟩;simp [binOp,Op.stringOp,aGQ];omega
  ·cases h
 all_goals first
  | cases h;done
  | exact⟨_,h,rfl,fun P t w=>by simp [binOp,Op.stringOp,Il]⟩
end
theorem rX (b off n:Nat):(⟨b,off,none⟩:Addr).add n=⟨b,off+n,none⟩:=by
 unfold Addr.add;split
 ·rename_i h;subst h;rfl
 ·rfl
section
variable{P:Program}{w:World}
theorem run_loadCellsFrom (a:Addr):∀(m:List Value) (i:Nat) (acc:Array Value),(∀(j:Nat) (v:Value),m[j]? =some v->w.cell? (a.add (i+j))=some v)->
 (loadCellsFrom a i m.length acc).run P w= .ok (acc++m.toArray) w:=by
 intro m;induction m with
 | nil=>intro i acc _;simp [loadCellsFrom]
 | cons v m ih=>
  intro i acc h;have h0:=h 0 v rfl;rw [VZ]at h0
  have h1:=ih (i+1) (acc.push v) fun j x hj=>by
   have:=h (j+1) x (by simpa using hj)
   rwa [show i+(j+1)=i+1+j by omega]at this
  simp [loadCellsFrom,h0,h1]
theorem run_loadCells (a:Addr) (m:List Value){n:Nat} (hn:m.length=n) (h:∀(j:Nat) (v:Value),m[j]? =some v->w.cell? (a.add j)=some v):
 (loadCells a n).run P w= .ok ⟨m⟩ w:=by
 subst hn;have:=run_loadCellsFrom (P:=P) a m 0 #[] (by simpa using h);simpa [loadCells]using this
theorem aBJ{b off:Nat}{cs:Array Value}{t:TypeId}{fz:Nat×Nat} (h:w.heap[b]? =some (.cells cs t fz)) (v:Value):
 w.setCell ⟨b,off,none⟩ v=w.putObj b (.cells (cs.setIfInBounds off v) t fz):=by
 unfold World.setCell World.putObj
 congr 1
 apply Xp;intro k;rw [aC7,aC3];by_cases e:b=k
 ·subst e
  obtain⟨hlt,hb⟩:=sQ.1 h;simp [hb,hlt]
 ·simp [e]
theorem Uk (b:Nat) (x y:Obj):(w.putObj b x).putObj b y=w.putObj b y:=by
 unfold World.putObj
 congr 1
 apply Xp;intro k;simp only [aC3,aC4];by_cases e:b=k<;>simp [e]
theorem XC{b:Nat}{x:Obj} (h:w.heap[b]? =some x):w.putObj b x=w:=by
 unfold World.putObj
 have:w.heap.setIfInBounds b x=w.heap:=by
  apply Xp;intro k;rw [aC3];by_cases e:b=k
  ·subst e
   obtain⟨hlt,hb⟩:=sQ.1 h;simp [hb,hlt]
  ·simp [e]
 rw [this]
theorem SJ{b:Nat}{x y:Obj} (h:w.heap[b]? =some y):(w.putObj b x).heap[b]? =some x:=World.putObj_heap_same (sQ.1 h).1
theorem yS{b c:Nat}{x:Obj} (h:c≠b):(w.putObj b x).heap[c]? =w.heap[c]? :=World.putObj_heap_other h
theorem putObj_size (b:Nat) (x:Obj):(w.putObj b x).heap.size=w.heap.size:=by simp [World.putObj]
theorem DU:∀(new:List Value) (w:World) (b off i:Nat) (cs:Array Value) (t:TypeId) (fz:Nat×Nat),w.heap[b]? =some (.cells cs t fz)->off+i+new.length<=cs.size->
 (∀x,off+i<=x->x<off+i+new.length->¬(fz.1<=x/\x<fz.2))->(∀v∈new,v.oneCell'=true)->
 (storeCells ⟨b,off,none⟩ new i).run P w= .ok () (w.putObj b (.cells ⟨aY (off+i) new cs.toList⟩ t fz)):=by
 intro new;induction new with
 | nil=>
  intro w b off i cs t fz h hs _ _;have e:aY (off+i) [] cs.toList=cs.toList:=by simp [aY]
  rw [e];simp [storeCells,XC h]
 | cons v new ih=>
  intro w b off i cs t fz h hs hfz h1;have hlt:off+i<cs.size:=by simp at hs;omega
  have hc:w.cell? ⟨b,off+i,none⟩=some cs[off+i]:=by simp [World.cell?,h,hlt]
  have hf:w.frozen? ⟨b,off+i,none⟩=false:=by
   have:=hfz (off+i) (bO _) (by simp);simp only [World.frozen?,h];simpa using this
  have fU:(store (⟨b,off+i,none⟩:Addr) v).run P w= .ok () (w.putObj b (.cells (cs.setIfInBounds (off+i) v) t fz)):=by
   rw [run_store P w _ v .plain (h1 v (by simp)),hc,hf,aBJ h];rfl
  have hih:=ih (w.putObj b (.cells (cs.setIfInBounds (off+i) v) t fz)) b off (i+1) (cs.setIfInBounds (off+i) v) t fz (SJ h)
   (by simp at hs ⊢;omega) (fun x hx hy=>hfz x (by omega) (by simp;omega)) (fun u hu=>h1 u (by simp [hu]))
  have es:aY (off+(i+1)) new (cs.setIfInBounds (off+i) v).toList=aY (off+i) (v::new) cs.toList:=by
   apply xQ;intro j;have hl:cs.toList.length=cs.size:=rfl;rw [sV _ _ _ (by simp at hs ⊢;omega),sV _ _ _ (by simp at hs ⊢;omega)];simp only [Br,oN];by_cases h2:j=off+i
   ·subst h2
    rw [aG (by omega),aK (by omega),Nat.sub_self];simp [hlt]
   ·by_cases h3:off+(i+1)<=j/\j<off+(i+1)+new.length
    ·rw [aK h3,aK (by omega)]
     obtain⟨q,rfl⟩:∃q,j=off+i+(q+1):=⟨j-(off+i+1),by omega⟩;rw [show off+i+(q+1)-(off+(i+1))=q by omega,show off+i+(q+1)-(off+i)=q+1 by omega];simp
    ·rw [aG h3,aG (by omega),IP (by omega)]
  simp only [storeCells,rX];rw [cR,fU,eL,hih,Uk,es]
end
section
variable{P:Program}{w0:World}{U:Rn}{S:St}{w:World}
theorem Rel.cells (h:Rel P w0 U S w){i:Nat}{vs:List Value}{e:TypeId}{k:CK} (ho:S.obj i=some (.cells vs e k)){L:Loc} (hL:U i=some L):
 ∃cs t fz,w.heap[L.b]? =some (.cells cs t fz)/\(∀(j:Nat) (v:Value),vs[j]? =some v->∃v',cs[L.s+j]? =some v'/\VR U v v')/\Yt P w0 L cs vs.length fz e t k:=by
 obtain⟨M,cs,t,fz,h1,h2,h3,h4⟩:=h.PB i _ ho;rw [hL]at h1;injection h1 with h1;subst h1;exact⟨cs,t,fz,h2,h3,h4⟩
theorem cell_of{b:Nat}{cs:Array Value}{t:TypeId}{fz:Nat×Nat} (h:w.heap[b]? =some (.cells cs t fz)){j:Nat}{v:Value} (hj:cs[j]? =some v):w.cell? ⟨b,j,none⟩=some v:=by
 simp [World.cell?,h,hj]
theorem Rel.KM (h:Rel P w0 U S w){i:Nat}{vs:List Value}{e:TypeId}{k:CK} (ho:S.obj i=some (.cells vs e k)){L:Loc} (hL:U i=some L){off n:Nat} (hn:off+n<=vs.length):
 ∃l',lZ U ((vs.drop off).take n) l'/\l'.length=n/\∀(j:Nat) (v:Value),l'[j]? =some v->w.cell? ((⟨L.b,L.s+off,none⟩:Addr).add j)=some v:=by
 obtain⟨cs,t,fz,h2,h3,_⟩:=h.cells ho hL;refine⟨(List.range n).map fun j=>cs.getD (L.s+(off+j)) undef,⟨by simp;omega,fun j v v' a b=>?_⟩,by simp,fun j v hj=>?_⟩
 ·rw [sR]at a
  split at a
  ·rename_i hj
   rw [rH]at a;obtain⟨u,hu,hr⟩:=h3 _ v a;simp [hj]at b;have:cs.getD (L.s+(off+j)) undef=u:=by simp [Xj,hu]
   simp [Xj]at this;rw [<-b,this];exact hr
  ·cases a
 ·have Yn:j<n:=by have:=(dK.1 hj).1;simpa using this
  simp [Yn]at hj;have hlt:off+j<vs.length:=by omega
  obtain⟨u,hu,_⟩:=h3 (off+j) vs[off+j] (aQ hlt);rw [rX,show L.s+off+j=L.s+(off+j)by omega];rw [cell_of h2 hu]
  congr 1
  rw [<-hj];simp [hu]
theorem Rel.aIA (h:Rel P w0 U S w){i:Nat}{vs:List Value}{e:TypeId}{k:CK} (ho:S.obj i=some (.cells vs e k)){L:Loc} (hL:U i=some L){o:Nat}{v:Value} (hv:vs[o]? =some v):
 ∃v',w.cell? ⟨L.b,L.s+o,none⟩=some v'/\VR U v v':=by
 obtain⟨cs,t,fz,h2,h3,_⟩:=h.cells ho hL;obtain⟨u,hu,hr⟩:=h3 o v hv;exact⟨u,cell_of h2 hu,hr⟩
theorem KY{t:TypeId}{b:Bool} (h:xV P t=some b) (w:World):(isAgg t).run P w= .ok b w:=by
 unfold xV at h;cases hu:P.underlying t with
 | none=>simp [hu]at h
 | some d=>
  simp [hu]at h;simp only [isAgg,cR,run_underlying hu,eL];subst h;cases d<;>rfl
theorem jG{t:TypeId}{n:Nat} (h:cQ P t=some n) (w:World):(sizeOf t).run P w= .ok n w:=by
 unfold cQ at h;cases hu:P.info? t with
 | none=>simp [hu]at h
 | some i=>simp [hu]at h;simp [sizeOf,typeInfo,hu,h]
theorem aH9{t:TypeId}{i:TypeInfo} (h:P.info? t=some i) (w:World):(typeInfo t).run P w= .ok i w:=by simp [typeInfo,h]
theorem GA{t:TypeId}{z:List Value} (h:xC P t=some z) (w:World):∃v,(zeroValue t).run P w= .ok v w/\v.cells.toList=z:=by
 unfold xC at h;cases hu:P.info? t with
 | none=>simp [hu]at h
 | some i=>
  cases hz:i.zero with
  | none=>simp [hu,hz]at h
  | some v=>simp [hu,hz]at h;exact⟨v,by simp [zeroValue,typeInfo,hu,hz],h⟩
theorem WP (h:Rel P w0 U S w){t:TypeId}{a a':Value}{K:VK} (hk:PT P t a S K=true) (ha:VR U a a'):
 ∃v v',K v S=true/\VR U v v'/\(Instr.loadAt t a').run P w= .ok v' w:=by
 unfold PT at hk;split at hk
 ·rename_i i o
  cases ha with
  | flat h=>simp [bW]at h
  | ptr hL=>
   rename_i L;split at hk
   ·rename_i aDh
    obtain⟨vs,e,c,ho,hk⟩:=HT hk;obtain⟨v,hv,hk⟩:=PX hk;obtain⟨v',hc,hr⟩:=h.aIA ho hL hv;refine⟨v,v',hk,hr,?_⟩;simp [Instr.loadAt,Instr.sureAddr,loadVar,KY aDh,hc]
   ·rename_i aDh
    split at hk
    ·rename_i n hsz
     obtain⟨vs,e,c,ho,hn,hk⟩:=GB hk;obtain⟨l',hr,hl,hc⟩:=h.KM ho hL hn;refine⟨_,.agg ⟨l'⟩,hk,.Yb hr,?_⟩;simp [Instr.loadAt,Instr.sureAddr,loadVar,KY aDh,jG hsz,run_loadCells _ l' hl hc]
    ·cases hk
   ·cases hk
 ·cases hk
end
section
variable{P:Program}{w0:World}{U:Rn}{S:St}{w:World}
theorem Wa:∀{new l:List Value},Ia new l=true->(∀v∈new,bW v=true)/\∀(j:Nat) (v:Value),new[j]? =some v->l[j]? =some v:=by
 intro new;induction new with
 | nil=>intro l _;exact⟨by simp,by simp⟩
 | cons a new ih=>
  intro l h;unfold Ia at h;rw [bU]at h;cases l with
  | nil=>cases h
  | cons b t=>
   have h2:(match(generalizing:=false) a,b with
    | .int j x,.int k y=>match FW j k with
     | true=>match eqI x y with | true=>Ia new t | false=>false
     | false=>false
    | _,_=>false)=true:=h
   split at h2
   ·split at h2
    ·rename_i hk
     split at h2
     ·rename_i hx
      have e1:=LA hk;rw [RZ]at hx;have e2:=eq_of_beq hx;subst e1 e2;have h:Ia new t=true:=h2;obtain⟨i1,i2⟩:=ih h;refine⟨fun v hv=>?_,fun j v hj=>?_⟩
      ·rcases cC.1 hv with e | hv
       ·subst e;rfl
       ·exact i1 v hv
      ·cases j with
       | zero=>simpa using hj
       | succ j=>simpa using i2 j v (by simpa using hj)
     ·cases h2
    ·cases h2
   ·cases h2
theorem DT (h:Rel P w0 U S w){i off:Nat}{new new':List Value}{k:St->Bool} (hk:vH S i off new k=true){L:Loc} (hL:U i=some L)
 (hn:lZ U new new') (h1:∀v∈new',v.oneCell'=true):
 ∃S' w',k S'=true/\Rel P w0 U S' w'/\xZ U w U w'/\(storeCells ⟨L.b,L.s+off,none⟩ new').run P w= .ok () w':=by
 obtain⟨vs,e,c,ho,hk⟩:=HT hk;obtain⟨cs,t,fz,hb,hcell,EA⟩:=h.cells ho hL
 have key:∀(S':St) (kd:CK) (olds:List Nat),S'.n=S.n->(∀j,S'.obj j=if j=i then some (.cells (aY off new vs) e kd)else if j∈olds then some .dead else S.obj j)->
  off+new.length<=vs.length->w0.heap.size<=L.b->Ph cs.size fz->(jD.cells vs e c).reads=false->(∀l,kd= .grown l->l=[])->(jD.cells vs e c).olds=olds->(jD.cells (aY off new vs) e kd).reads=false->
  (∀j∈olds,j<S.n)->
  (∀cs':Array Value,cs'.size=cs.size->Yt P w0 L cs' vs.length fz e t kd)->
  Rel P w0 U S' (w.putObj L.b (.cells ⟨aY (L.s+off) new' cs.toList⟩ t fz))/\xZ U w U (w.putObj L.b (.cells ⟨aY (L.s+off) new' cs.toList⟩ t fz))/\
   (storeCells ⟨L.b,L.s+off,none⟩ new').run P w= .ok () (w.putObj L.b (.cells ⟨aY (L.s+off) new' cs.toList⟩ t fz)):=by
  intro S' kd olds hSn vJ hlen hB hth XE hkd holds aR8 aOF hKR
  have hvl:∀j,j<vs.length->L.s+j<cs.size:=fun j hj=>by
   obtain⟨v',PY,_⟩:=hcell j vs[j] (aQ hj);exact(sQ.1 PY).1
  have Cr:new.length=0\/L.s+off+new'.length<=cs.size:=by
   rcases OS new.length with hz | hz
   ·exact .inl hz
   ·right
    have:=hvl (off+new.length-1) (by omega);rw [<-hn.1];omega
  have wL:cs.toList.length=cs.size:=rfl
  have hsz:(⟨aY (L.s+off) new' cs.toList⟩:Array Value).size=cs.size:=by
   rcases Cr with hz | hz
   ·have:new'=[]:=sO (by rw [<-hn.1];exact hz)
    subst this;simp [aY]
   ·show(aY (L.s+off) new' cs.toList).length=_
    rw [HC _ _ _ (by omega)];exact wL
  have Ej:∀j:Nat,(⟨aY (L.s+off) new' cs.toList⟩:Array Value)[j]? =if L.s+off<=j/\j<L.s+off+new'.length then new'[j-(L.s+off)]? else cs[j]? :=by
   intro j;rcases Cr with hz | hz
   ·have:new'=[]:=sO (by rw [<-hn.1];exact hz)
    subst this;rw [aG (by simp)];simp [aY]
   ·have:=sV (L.s+off) new' cs.toList (by omega) j
    simpa using this
  have Yd:IV P w0 U (w.putObj L.b (.cells ⟨aY (L.s+off) new' cs.toList⟩ t fz)) i (.cells (aY off new vs) e kd):=by
   refine⟨L,_,t,fz,hL,SJ hb,fun j v hj=>?_,by rw [HC _ _ _ hlen];exact hKR _ hsz⟩;rw [sV _ _ _ hlen]at hj;rw [Ej];split at hj
   ·rename_i hr
    rw [aK (by have:=hn.1;omega)];obtain⟨v',PY,hr'⟩:=hn.get hj;exact⟨v',by rw [show L.s+j-(L.s+off)=j-off by omega];exact PY,hr'⟩
   ·rename_i hr
    rw [aG (by have:=hn.1;omega)];exact hcell j v hj
  have aDx:∀j x M,j≠i->j∉olds->S.obj j=some x->x.BS=false->U j=some M->M.b≠L.b:=by
   intro j x M hj hjo hx hd hM TV;rcases h.sep i j _ x L M (aN hj) ho hx rfl hd hL hM TV.symm with ⟨hr,_⟩ | hs | hs
   ·rw [XE]at hr;cases hr
   ·rw [holds]at hs;exact hjo hs
   ·cases x with
    | cells ws e' kk=>
     cases kk with
     | grown l=>
      obtain⟨_,h2⟩:=h.old j ws e' l hx i hs;rcases h2 _ ho with h3 | ⟨_,_,h3,_⟩
      ·cases h3
      ·injection h3 with _ _ h3;subst h3;simp [jD.reads]at XE
     | _=>simp [jD.olds]at hs
    | _=>simp [jD.olds]at hs
  have DS:∀j x,S'.obj j=some x->(j=i/\x= .cells (aY off new vs) e kd)\/(j≠i/\j∈olds/\x= .dead)\/(j≠i/\j∉olds/\S.obj j=some x):=by
   intro j x hx;rw [vJ]at hx;by_cases e1:j=i
   ·rw [aK e1]at hx;injection hx with hx;exact .inl ⟨e1,hx.symm⟩
   ·rw [aG e1]at hx
    by_cases e2:j∈olds
    ·rw [aK e2]at hx;injection hx with hx;exact .inr (.inl ⟨e1,e2,hx.symm⟩)
    ·rw [aG e2]at hx;exact .inr (.inr ⟨e1,e2,hx⟩)
  have hrel:=h.aJ (S':=S') (w':=w.putObj L.b (.cells ⟨aY (L.s+off) new' cs.toList⟩ t fz)) (b:=L.b) hB ⟨i,L,hL,rfl⟩ hSn (putObj_size _ _) (fun c hc=>yS hc) rfl rfl rfl
   (fun j x hx=>by
    rcases DS j x hx with ⟨e1,e2⟩ | ⟨e1,e2,e3⟩ | ⟨e1,e2,Mx⟩
    ·subst e1 e2;exact .inr (.inr ⟨h.lt _ _ ho,Yd⟩)
    ·subst e3;exact .inl ⟨rfl,aOF _ e2⟩
    ·cases hd:x.BS with
     | true=>exact .inl ⟨rfl,h.lt _ _ Mx⟩
     | false=>exact .inr (.inl ⟨Mx,fun M hM=>aDx j x M e1 e2 Mx hd hM⟩))
   (fun p q x y M N hpq hx hy hdx hdy hM hN Tq=>by
    rcases DS p x hx with ⟨e1,e2⟩ | ⟨_,_,e3⟩ | ⟨e1,e2,Mx⟩
    ·rcases DS q y hy with ⟨f1,_⟩ | ⟨_,_,f3⟩ | ⟨f1,f2,hy'⟩
     ·exact aX (e1.trans f1.symm) hpq
     ·subst f3;cases hdy
     ·subst e1;rw [hL]at hM;injection hM with hM;subst hM
      exact aX Tq.symm (aDx q y N f1 f2 hy' hdy hN)
    ·subst e3;cases hdx
    ·rcases DS q y hy with ⟨f1,_⟩ | ⟨_,_,f3⟩ | ⟨f1,f2,hy'⟩
     ·subst f1;rw [hL]at hN;injection hN with hN;subst hN
      exact aX Tq (aDx p x M e1 e2 Mx hdx hM)
     ·subst f3;cases hdy
     ·exact h.sep p q x y M N hpq Mx hy' hdx hdy hM hN Tq)
   (fun j ws e' l hj q hq=>by
    rcases DS j _ hj with ⟨e1,e2⟩ | ⟨_,_,e3⟩ | ⟨e1,e2,Yn⟩
    ·injection e2 with _ _ e2
     have:=hkd l e2.symm;subst this;cases hq
    ·cases e3
    ·obtain⟨g1,g2⟩:=h.old j ws e' l Yn q hq
     refine⟨g1,fun o hqo=>?_⟩;rcases DS q o hqo with ⟨f1,f2⟩ | ⟨_,_,f3⟩ | ⟨_,_,hq'⟩
     ·subst f1
      rcases g2 _ ho with g3 | ⟨_,_,g3,_⟩
      ·cases g3
      ·injection g3 with _ _ g3;subst g3;simp [jD.reads]at XE
     ·exact .inl f3
     ·exact g2 o hq')
  refine⟨hrel.1,hrel.2,?_⟩;rcases Cr with hz | hz
  ·have:new'=[]:=sO (by rw [<-hn.1];exact hz)
   subst this;have e1:aY (L.s+off) [] cs.toList=cs.toList:=by simp [aY]
   rw [e1,XC hb];simp [storeCells]
  ·have:=DU (P:=P) new' w L.b (L.s+off) 0 cs t fz hb (by omega) (fun x hx hy=>hth x (by omega)) h1
   simpa using this
 have aQI:Ia new (vs.drop off)=true->k S=true->(∀j,j<vs.length->¬(fz.1<=L.s+j/\L.s+j<fz.2))->
  ∃S' w',k S'=true/\Rel P w0 U S' w'/\xZ U w U w'/\(storeCells ⟨L.b,L.s+off,none⟩ new').run P w= .ok () w':=by
  intro hs vZ hth;obtain⟨s1,s2⟩:=Wa hs
  have hnn:new'=new:=by
   apply xQ;intro j;cases hj:new[j]? with
   | none=>exact hn.get_none hj
   | some v=>
    obtain⟨v',PY,hr⟩:=hn.get hj;rw [PY,hr.of_flat (s1 v (BJ hj))]
  subst hnn
  have aQJ:∀j v,new'[j]? =some v->cs[L.s+off+j]? =some v:=fun j v hj=>by
   obtain⟨v',PY,hr⟩:=hcell (off+j) v (by have:=s2 j v hj;rw [rH]at this;exact this);rw [<-vG]at PY;rw [PY,hr.of_flat (s1 v (BJ hj))]
  have aSs:∀j,j<new'.length->off+j<vs.length:=fun j hj=>by
   have:=s2 j new'[j] (aQ hj);rw [rH]at this;exact(dK.1 this).1
  rcases OS new'.length with hz | hz
  ·have:new'=[]:=sO hz
   subst this;exact⟨S,w,vZ,h,.refl U w,by simp [storeCells]⟩
  ·have hle:L.s+off+new'.length<=cs.size:=by
    have:=aQJ (new'.length-1) _ (aQ (by omega));have:=(sQ.1 this).1;omega
   have fU:=DU (P:=P) new' w L.b (L.s+off) 0 cs t fz hb (by omega) (fun x hx hy=>by
    have:=hth (x-L.s) (by have:=aSs (x-L.s-off) (by omega);omega)
    rwa [show L.s+(x-L.s)=x by omega]at this) h1
   have AW:aY (L.s+off) new' cs.toList=cs.toList:=by
    apply xQ;intro j;rw [sV _ _ _ (by simpa using hle)];split
    ·rename_i hj
     rw [aQ (by omega)];have:=aQJ (j-(L.s+off)) _ (aQ (by omega));rw [show L.s+off+(j-(L.s+off))=j by omega]at this;simpa using this.symm
    ·rfl
   refine⟨S,w,vZ,h,.refl U w,?_⟩;have e:w.putObj L.b (.cells ⟨aY (L.s+off) new' cs.toList⟩ t fz)=w:=by rw [AW];exact XC hb
   simpa [e]using fU
 cases c with
 | exact=>
  simp only [BQ]at hk;split at hk
  ·rename_i hlen
   rw [iB]at hk;obtain⟨g1,g2,g3,g4⟩:=EA
   obtain⟨r1,r2,r3⟩:=key (S.set i (.cells (aY off new vs) e .exact)) .exact [] rfl (fun j=>by rw [HE];simp) hlen g1 g4.1 rfl (by simp) rfl rfl (by simp)
    (fun cs' aL3=>⟨g1,g2,by omega,by rw [aL3];exact g4⟩)
   exact⟨_,_,hk,r1,r2,r3⟩
  ·cases hk
 | grown olds=>
  have vZ:(NG off vs fun l=>match Ia new l with | true=>k S | false=>tP off new vs fun vs=>Vi olds S.h fun h=>ZR (.cells vs e (.grown [])) (Nat.succ i) h i fun h=>k ⟨h,S.n⟩)=true:=hk;clear hk;rw [DR]at vZ;split at vZ
  ·cases hs:Ia new (vs.drop off)with
   | true=>
    rw [hs]at vZ;obtain⟨g1,g2,g3,g4⟩:=EA;refine aQI hs vZ fun j hj=>g2 _ ?_;obtain⟨v',PY,_⟩:=hcell j _ (aQ hj);exact(sQ.1 PY).1
   | false=>
    rw [hs]at vZ;have hk:=vZ;clear vZ;simp only [BQ]at hk;split at hk
    ·rename_i hlen
     rw [aBh,SK]at hk;obtain⟨g1,g2,g3,g4⟩:=EA
     obtain⟨r1,r2,r3⟩:=key ⟨Tr.KB (jD.cells (aY off new vs) e (CK.grown [])) i.succ (olds.foldl (fun h i=>h.put i jD.dead) S.h) i,S.n⟩ (.grown []) olds rfl (fun j=>by
      show Tr.get (Tr.KB _ (i+1) _ i) j=_;rw [Pj _ _ _ _ _ (xR i),aBi];rfl) hlen g1 g2 rfl (fun l hl=>by injection hl with hl;exact hl.symm) rfl rfl
      (fun j hj=>(h.old i vs e olds ho j hj).1) (fun cs' aL3=>⟨g1,by rw [aL3];exact g2,by rw [aL3];exact g3,g4⟩)
     exact⟨_,_,hk,r1,r2,r3⟩
    ·cases hk
  ·cases vZ
 | rs=>
  have vZ:(NG off vs fun l=>match Ia new l with | true=>k S | false=>false)=true:=hk;rw [DR]at vZ;split at vZ
  ·cases hs:Ia new (vs.drop off)with
   | true=>rw [hs]at vZ;exact aQI hs vZ EA.2
   | false=>rw [hs]at vZ;cases vZ
  ·cases vZ
 | uT=>cases hk
 | ro=>cases hk
theorem HB{v:Value}{k:List Value->Bool} (hk:pX v k=true){v':Value} (hv:VR U v v'):
 ∃cs,k cs=true/\(∀x∈cs,lD x=true)/\lZ U cs v'.cells.toList/\cs=v.cells.toList:=by
 unfold pX at hk;split at hk
 ·rename_i cs
  rw [nG]at hk;split at hk
  ·rename_i ha
   obtain⟨a',rfl,hl⟩:=hv.NH;exact⟨_,hk,dL.1 ha,hl,rfl⟩
  ·cases hk
 ·cases hk
 ·rename_i h1 h2
  have hc:v.cells= #[v]:=by cases v<;>first | rfl | exact aX rfl (h1 _)
  have ho:lD v=true:=by cases v<;>first | rfl | exact aX rfl (h1 _) | exact aX rfl (h2 _)
  have hc':v'.cells= #[v']:=by have:=hv.lD ho;cases v'<;>first | rfl | (simp [Value.oneCell']at this)
  exact⟨_,hk,by simpa using ho,by rw [hc'];exact .cons hv (.nil U),by rw [hc]⟩
theorem Ek{l l':List Value} (h:lZ U l l') (h1:∀x∈l,lD x=true):∀v∈l',v.oneCell'=true:=by
 intro v hv;obtain⟨j,hj⟩:=Bt hv;have hlt:j<l.length:=by rw [h.1];exact(dK.1 hj).1
 exact(h.2 j l[j] v (aQ hlt) hj).lD (h1 _ (cJ _))
theorem Yp (h:Rel P w0 U S w){t:TypeId}{a a' x x':Value}{k:St->Bool} (hk:Ch P t a x S k=true) (ha:VR U a a') (hx:VR U x x'):
 ∃S' w',k S'=true/\Rel P w0 U S' w'/\xZ U w U w'/\(Instr.storeAt t a' x').run P w= .ok () w':=by
 unfold Ch at hk;split at hk
 ·rename_i i o
  cases ha with
  | flat h=>simp [bW]at h
  | ptr hL=>
   rename_i L;split at hk
   ·rename_i n hsz
    obtain⟨cs,hk,h1,wL,_⟩:=HB hk hx;rw [oE]at hk;split at hk
    ·rename_i hn
     have hn':cs.length=n:=dI hn;obtain⟨S',w',xE,r1,r2,r3⟩:=DT h hk hL wL (Ek wL h1);refine⟨S',w',xE,r1,r2,?_⟩;have aL2:x'.cells.size=n:=by rw [<-hn',wL.1];rfl
     simp [Instr.storeAt,Instr.sureAddr,storeVar,jG hsz,aL2,r3]
    ·cases hk
   ·cases hk
 ·cases hk
theorem Rel.aH7 (h:Rel P w0 U S w){cs cs':List Value} (wL:lZ U cs cs') (t:TypeId) (m:Nat):
 Rel P w0 (U.put S.n ⟨w.heap.size,0,cs'.length,m⟩) (S.new (.cells cs t .exact)) (w.alloc (.cells ⟨cs'⟩ t))/\xZ U w (U.put S.n ⟨w.heap.size,0,cs'.length,m⟩) (w.alloc (.cells ⟨cs'⟩ t)):=by
 refine h.new _ _ _ rfl (fun U' he hU'=>⟨_,⟨cs'⟩,t,(0,0),hU',?_,fun j v hj=>?_,?_⟩) (by simp [jD.olds])
 ·show(w.heap.push _)[w.heap.size]? =_;simp
 ·obtain⟨v',PY,hr⟩:=wL.get hj
  exact⟨v',by simpa using PY,hr.mono he⟩
 ·exact⟨h.base.size,rfl,wL.1.symm,fun x _ hx=>by simp at hx,rfl⟩
theorem Rel.aA8 (h:Rel P w0 U S w){cs cs' more:List Value} (wL:lZ U cs cs') (e:TypeId){m:Nat} (hm:cQ P e=some m) (fz:Nat×Nat) (hfz:Ph (cs'++more).length fz) (olds:List Nat)
 (hold:∀i∈olds,i<S.n/\∀x,S.obj i=some x->x= .dead\/∃ws e,x= .cells ws e .uT):
 Rel P w0 (U.put S.n ⟨w.heap.size,0,(cs'++more).length,m⟩) (S.new (.cells cs e (.grown olds))) (w.alloc (.cells ⟨cs'++more⟩ e fz))/\xZ U w (U.put S.n ⟨w.heap.size,0,(cs'++more).length,m⟩) (w.alloc (.cells ⟨cs'++more⟩ e fz)):=by
 refine h.new _ _ _ rfl (fun U' he hU'=>⟨_,⟨cs'++more⟩,e,fz,hU',?_,fun j v hj=>?_,?_⟩) hold
 ·show(w.heap.push _)[w.heap.size]? =_;simp
 ·obtain⟨v',PY,hr⟩:=wL.get hj
  refine⟨v',?_,hr.mono he⟩;have hlt:j<cs'.length:=(dK.1 PY).1;have e1:(⟨cs'++more⟩:Array Value)[0+j]? =(cs'++more)[j]? :=by simp
  exact e1.trans (by rw [gV hlt];exact PY)
 ·exact⟨h.base.size,hfz,rfl,hm,rfl⟩
end
section
variable{P:Program}{w0:World}{U:Rn}{S:St}{w:World}
structure BR (P:Program) (U:Rn) (A:bA) (a:Act):Prop where
 tmps:TRs U A.tmps a.tmps.toList
 g:A.g=P.globals.size
theorem aT (h:Rel P w0 U S w){A:bA}{a:Act} (hA:BR P U A a){x:Operand}{k:Value->Bool} (hk:wA A x k=true):∃v,k v=true/\VR U v (a.eval x):=by
 obtain⟨v,hv,h1⟩:=aIh hk;refine⟨v,hv,?_⟩;rcases h1 with ⟨t,rfl,ht⟩ | ⟨rfl,hf⟩ | ⟨g,rfl,hg,rfl⟩ | ⟨f,rfl,rfl⟩
 ·obtain⟨v',PY,hr⟩:=hA.tmps.get ht
  have e:a.tmps.getD t undef=v':=by
   rw [Nz]at PY;simp [Xj,PY]
  show VR U v (a.tmps.getD t undef);rw [e];exact hr
 ·exact .kV hf
 ·obtain⟨L,h1,h2,h3⟩:=h.Pe g (by rw [<-hA.g];exact hg)
  have:=VR.ptr (o:=0) h1;rw [h2,h3]at this;exact this
 ·exact .func rfl rfl (by simp) (by simp)
theorem BV (h:Rel P w0 U S w){A:bA}{a:Act} (hA:BR P U A a):∀{xs:List Operand} {k:List Value->Bool},WC A xs k=true->∃vs,k vs=true/\lZ U vs (xs.map a.eval):=by
 intro xs;induction xs with
 | nil=>intro k hk;exact⟨[],hk,.nil U⟩
 | cons x xs ih=>
  intro k hk;obtain⟨v,hv,hr⟩:=aT h hA (show wA A x (fun v=>WC A xs fun vs=>k (v::vs))=true from hk);obtain⟨vs,JG,hrs⟩:=ih hv;exact⟨v::vs,JG,.cons hr hrs⟩
theorem GD (h:Rel P w0 U S w){A:bA}{a:Act} (hA:BR P U A a){x:Option Operand}{k:Option Value->Bool} (hk:Cj A x k=true):
 ∃v,k v=true/\(v=none/\x=none\/∃u y,v=some u/\x=some y/\VR U u (a.eval y)):=by
 cases x with
 | none=>exact⟨none,hk,.inl ⟨rfl,rfl⟩⟩
 | some x=>obtain⟨v,hv,hr⟩:=aT h hA (show wA A x (fun v=>k (some v))=true from hk);exact⟨some v,hv,.inr ⟨v,x,rfl,rfl,hr⟩⟩
theorem aBj{A:bA}{a:Act} (hA:BR P U A a){d:Option Tmp}{v v':Value} (hv:VR U v v'){k:bA->Bool} (hk:mV A d v k=true):
 ∃A',k A'=true/\BR P U A' (a.put d v')/\A'.marks=A.marks:=by
 cases d with
 | none=>exact⟨A,hk,hA,rfl⟩
 | some d=>
  obtain⟨hd,hk⟩:=GC (show uU v A.tmps d (fun ts=>k ⟨ts,A.marks,A.g⟩)=true from hk);exact⟨_,hk,⟨by simpa [Act.put]using hA.tmps.set hd hv,hA.g⟩,rfl⟩
theorem BR.mono{U':Rn} (he:Ext U U'){A:bA}{a:Act} (h:BR P U A a):BR P U' A a:=⟨h.tmps.mono he,h.g⟩
theorem Ul{t:TypeId}{a b a' b':Value}{k:Bool->Bool} (hk:xD P t a b k=true) (ha:VR U a a') (hb:VR U b b'):
 ∃e,k e=true/\bW a=true/\bW b=true/\sU P t=true/\∀(d:Nat) (w:World),(Op.equalIn (d+1) t a' b').run P w= .ok e w:=by
 unfold xD at hk;split at hk
 ·rename_i kd hu
  split at hk
  ·rename_i j x l y
   split at hk
   ·rename_i hj
    rw [pU,RZ]at hk;have:=LA hj;subst this;rw [ha.of_flat rfl,hb.of_flat rfl];exact⟨_,hk,rfl,rfl,by simp [sU,hu],fun d w=>run_equalIn_int w d t j kd x y hu⟩
   ·cases hk
  ·cases hk
 ·rename_i hu
  split at hk
  ·rename_i x y
   rw [pU,SC,<-Il,<-Il]at hk;rw [ha.of_flat rfl,hb.of_flat rfl];exact⟨_,hk,rfl,rfl,by simp [sU,hu],fun d w=>run_equalIn_string w d t x y hu⟩
  ·cases hk
 ·rename_i hu
  split at hk
  ·rename_i x y
   rw [pU]at hk;rw [ha.of_flat rfl,hb.of_flat rfl];exact⟨_,hk,rfl,rfl,by simp [sU,hu],fun d w=>run_equalIn_bool' w d t x y hu⟩
  ·cases hk
 ·cases hk
theorem aDy{t:TypeId} (h:sU P t=true):xV P t=some false:=by
 unfold sU at h;unfold xV;split at h<;>rename_i hu<;>first | (rw [hu];rfl) | cases h
theorem WJ{t:TypeId} (h:sU P t=true){cs:Array Value}{off:Nat}{v:Value} (hv:cs.toList[off]? =some v) (w:World):(part t cs off).run P w= .ok v w:=by
 rw [Nz]at hv;simp [part,KY (aDy h),hv]
theorem Qg:∀(fs:List Field) (i:Nat) (a b:List Value) (X Y:Array Value) (k:Bool->Bool),xX P i fs=true->PU P fs a b k=true->
 lZ U a (X.toList.drop i)->lZ U b (Y.toList.drop i)->∃e,k e=true/\∀(d:Nat) (w:World),(Op.eqFields (d+1) X Y fs).run P w= .ok e w:=by
 intro fs;induction fs with
 | nil=>intro i a b X Y k _ hk _ _;exact⟨true,hk,fun d w=>rfl⟩
 | cons f fs ih=>
  intro i a b X Y k hp hk ha hb;simp only [xX,dR,beq_iff_eq,bne_iff_ne]at hp;obtain⟨⟨⟨aE4,aGz⟩,xN⟩,yB⟩:=hp;cases a with
  | nil=>cases hk
  | cons x a=>
   cases b with
   | nil=>cases hk
   | cons y b=>
    have xE:xD P f.type x y (fun e=>match e with | true=>PU P fs a b k | false=>k false)=true:=hk;obtain⟨x',tx,ex,hx,htx⟩:=ha.dM;obtain⟨y',ty,ey,hy,hty⟩:=hb.dM;obtain⟨e,he,_,_,_,fU⟩:=Ul xE hx hy;have gx:X.toList[i]? =some x':=by have:=kB (·[0]?) ex;simpa [rH]using this
    have gy:Y.toList[i]? =some y':=by have:=kB (·[0]?) ey;simpa [rH]using this
    have dx:X.toList.drop (i+1)=tx:=by have:=kB List.tail ex;simpa [List.tail_drop]using this
    have dy:Y.toList.drop (i+1)=ty:=by have:=kB List.tail ey;simpa [List.tail_drop]using this
    cases e with
    | false=>
     refine⟨false,he,fun d w=>?_⟩;simp [Op.eqFields,aE4,aGz,WJ xN gx,WJ xN gy,fU]
    | true=>
     obtain⟨e,he,hr⟩:=ih (i+1) a b X Y k yB he (by rw [dx];exact htx) (by rw [dy];exact hty);refine⟨e,he,fun d w=>?_⟩;simp [Op.eqFields,aE4,aGz,WJ xN gx,WJ xN gy,fU,hr]
theorem HR{t:TypeId}{fs:List Field} (h:RV P t=some fs):P.underlying t=some (.struct (P.fieldsOf t))/\(P.fieldsOf t).toList=fs/\xX P 0 fs=true/\P.stoodInHeld t=false/\P.eqGuardType P.depth t=false:=by
 unfold RV at h;split at h
 ·rename_i gs hu
  split at h
  ·rename_i hc
   injection h with h;simp only [dR,IR]at hc;have e:P.fieldsOf t=gs:=by simp [Program.fieldsOf,hu]
   rw [e];exact⟨hu,h,by rw [<-h];exact hc.1.1,hc.1.2,hc.2⟩
  ·cases h
 ·cases h
section
variable (w:World) (d:Nat){t:TypeId}
theorem aSu{e:TypeId} (h:P.underlying t=some (.pointer e)) (a:Addr):(Op.equalIn (d+1) t (.pointer (some a)) (.pointer none)).run P w= .ok false w:=by simp [Op.equalIn,run_underlying h]
theorem aSv{e:TypeId} (h:P.underlying t=some (.pointer e)) (a:Addr):(Op.equalIn (d+1) t (.pointer none) (.pointer (some a))).run P w= .ok false w:=by simp [Op.equalIn,run_underlying h]
theorem aSw{e:TypeId} (h:P.underlying t=some (.pointer e)):(Op.equalIn (d+1) t (.pointer none) (.pointer none)).run P w= .ok true w:=by simp [Op.equalIn,run_underlying h]
theorem aSx{e:TypeId} (h:P.underlying t=some (.slice e)) (a:Addr) (n c m q:Nat):(Op.equalIn (d+1) t (.slice (some a) n c) (.slice none m q)).run P w= .ok false w:=by simp [Op.equalIn,run_underlying h]
theorem aSy{e:TypeId} (h:P.underlying t=some (.slice e)) (a:Addr) (n c m q:Nat):(Op.equalIn (d+1) t (.slice none m q) (.slice (some a) n c)).run P w= .ok false w:=by simp [Op.equalIn,run_underlying h]
theorem aSz{e:TypeId} (h:P.underlying t=some (.slice e)) (n c m q:Nat):(Op.equalIn (d+1) t (.slice none m q) (.slice none n c)).run P w= .ok true w:=by simp [Op.equalIn,run_underlying h]
theorem aSA{e f:TypeId} (h:P.underlying t=some (.map e f)) (a:Nat):(Op.equalIn (d+1) t (.map (some a)) (.map none)).run P w= .ok false w:=by simp [Op.equalIn,run_underlying h]
theorem aSB{e f:TypeId} (h:P.underlying t=some (.map e f)) (a:Nat):(Op.equalIn (d+1) t (.map none) (.map (some a))).run P w= .ok false w:=by simp [Op.equalIn,run_underlying h]
theorem aSC{e f:TypeId} (h:P.underlying t=some (.map e f)):(Op.equalIn (d+1) t (.map none) (.map none)).run P w= .ok true w:=by simp [Op.equalIn,run_underlying h]
theorem aQK{e f:Array TypeId}{v:Bool} (h:P.underlying t=some (.func e f v)) (a:Fn) (x y:Array Value):(Op.equalIn (d+1) t (.func a x y) .nilFunc).run P w= .ok false w:=by simp [Op.equalIn,run_underlying h]
theorem aQL{e f:Array TypeId}{v:Bool} (h:P.underlying t=some (.func e f v)) (a:Fn) (x y:Array Value):(Op.equalIn (d+1) t .nilFunc (.func a x y)).run P w= .ok false w:=by simp [Op.equalIn,run_underlying h]
theorem aQM{e f:Array TypeId}{v:Bool} (h:P.underlying t=some (.func e f v)):(Op.equalIn (d+1) t .nilFunc .nilFunc).run P w= .ok true w:=by simp [Op.equalIn,run_underlying h]
theorem aQN{m:Array (String×TypeId)} (h:P.underlying t=some (.interface m)) (u:TypeId) (x:Value):(Op.equalIn (d+1) t (.iface u x) .nilIface).run P w= .ok false w:=by simp [Op.equalIn,run_underlying h]
theorem aQO{m:Array (String×TypeId)} (h:P.underlying t=some (.interface m)) (u:TypeId) (x:Value):(Op.equalIn (d+1) t .nilIface (.iface u x)).run P w= .ok false w:=by simp [Op.equalIn,run_underlying h]
end
def aSD:Value->Value->Prop
 | .pointer (some _),v'=>∃a,v'= .pointer (some a)
 | .slice (some _) _ _,v'=>∃a:Addr×Nat×Nat,v'= .slice (some a.1) a.2.1 a.2.2
 | .map (some _),v'=>∃b,v'= .map (some b)
 | .func _ _ _,v'=>∃a:Fn×Array Value×Array Value,v'= .func a.1 a.2.1 a.2.2
 | .iface t _,v'=>∃u,v'= .iface t u
 | .pointer none,v'=>∃_:Unit,v'= .pointer none
 | .slice none n c,v'=>∃_:Unit,v'= .slice none n c
 | .map none,v'=>∃_:Unit,v'= .map none
 | .nilFunc,v'=>∃_:Unit,v'= .nilFunc
 | .nilIface,v'=>∃_:Unit,v'= .nilIface
 | _,_=>True
theorem VR.look{v v':Value} (h:VR U v v'):aSD v v':=by
 cases h with
 | flat h=>
  cases v
  case pointer a=>cases a with | none=>exact⟨(),rfl⟩ | some a=>simp [bW]at h
  case slice a n c=>cases a with | none=>exact⟨(),rfl⟩ | some a=>simp [bW]at h
  case map a=>cases a with | none=>exact⟨(),rfl⟩ | some a=>simp [bW]at h
  case func=>simp [bW]at h
  case iface=>simp [bW]at h
  case nilFunc=>exact⟨(),rfl⟩
  case nilIface=>exact⟨(),rfl⟩
  all_goals trivial
 | ptr _=>exact⟨_,rfl⟩
 | slice _=>exact⟨(_,_,_),rfl⟩
 | rW _ _ _ _ _=>exact⟨(_,_,_),rfl⟩
 | DP=>exact⟨(_,_,_),rfl⟩
 | DQ _=>exact⟨(_,_,_),rfl⟩
 | map _=>exact⟨_,rfl⟩
 | func _ _ _ _=>exact⟨(_,_,_),rfl⟩
 | yield _=>exact⟨(_,_,_),rfl⟩
 | LC _=>exact⟨(_,_,_),rfl⟩
 | iface _=>exact⟨_,rfl⟩
 | agg _ _=>trivial
 | tuple _ _=>trivial
theorem SD{t:TypeId}{a b a' b':Value}{k:Bool->Bool} (hk:pY P t a b k=true) (ha:VR U a a') (hb:VR U b b'):
 ∃e,k e=true/\(∀(w:World),(Op.equal t a' b').run P w= .ok e w)/\(∀(op:BinOp) (x y:Operand) (w:World),(eqGuard op t x y a' b').run P w= .ok () w):=by
 have guard:∀(op:BinOp) (x y:Operand) (w:World),(∀xs,a'≠ .agg xs)->(a'= .nilIface->b'≠ .nilIface)->(eqGuard op t x y a' b').run P w= .ok () w:=by
  intro op x y w h1 h2;unfold eqGuard;cases op<;>cases a'<;>cases b'<;>first | rfl | exact aX rfl (h1 _) | exact aX rfl (h2 rfl)
 unfold pY at hk;split at hk
 ·rename_i xs ys
  split at hk
  ·rename_i fs hfs
   obtain⟨h1,h2,h3,h4,h5⟩:=HR hfs;obtain⟨xs',rfl,hx⟩:=ha.NH;obtain⟨ys',rfl,hy⟩:=hb.NH;obtain⟨e,he,hr⟩:=Qg fs 0 _ _ xs' ys' k h3 hk (by simpa using hx) (by simpa using hy);refine⟨e,he,fun w=>?_,fun op x y w=>run_eqGuard_agg w op t x y xs' ys' h5⟩;show(Op.equalIn (9999+1) t _ _).run P w=_;rw [run_equalIn_struct w 9999 t xs' ys' h1 h4,h2];exact hr 9998 w
  ·cases hk
 all_goals first
  | cases hk;done
  | (split at hk<;>first
   | cases hk;done
   | (rename_i hu
      rw [pU]at hk;have ea:=ha.of_flat rfl;have eb:=hb.of_flat rfl;rw [ea,eb]at guard;rw [ea,eb];exact⟨_,hk,fun w=>run_equal_bool w t _ _ hu,fun op x y w=>guard op x y w (by simp) (by simp)⟩)
   | (rename_i hu
      obtain⟨_,ea⟩:=ha.look;obtain⟨_,eb⟩:=hb.look;refine⟨_,hk,fun w=>?_,fun op x y w=>guard op x y w ?_ ?_⟩
      ·show(Op.equalIn (9999+1) t _ _).run P w=_
       rw [ea,eb]
       first
        | exact aSu w 9999 hu _ | exact aSv w 9999 hu _ | exact aSw w 9999 hu | exact aSx w 9999 hu _ _ _ _ _ | exact aSy w 9999 hu _ _ _ _ _ | exact aSz w 9999 hu _ _ _ _ | exact aSA w 9999 hu _ | exact aSB w 9999 hu _
        | exact aSC w 9999 hu | exact aQK w 9999 hu _ _ _ | exact aQL w 9999 hu _ _ _ | exact aQM w 9999 hu | exact aQN w 9999 hu _ _ | exact aQO w 9999 hu _ _
      ·intro xs e;rw [ea]at e;cases e
      ·intro e e2;rw [ea]at e;rw [eb]at e2;first | (cases e;done) | (cases e2;done)))
end
section
variable{P:Program}{w0:World}{U:Rn}{S:St}{w:World}
def AZ:Value->Bool
 | .int _ _ | .float _ _ | .complex _ _ _ | .string _=>true
 | _=>false
theorem VR.AZ{v v':Value} (h:VR U v v'):AZ v'=AZ v:=by cases h<;>rfl
theorem Fe{t:TypeId}{a b:Value}{k:Bool->Bool} (hk:pY P t a b k=true):AZ a=false:=by
 cases a<;>first | rfl | (unfold pY at hk;cases hk)
theorem binOp_eql{t:TypeId}{a b:Value} (h:AZ a=false):binOp .eql t a b=(do pure (.bool (<-Op.equal t a b))):=by
 cases a<;>cases b<;>first | rfl | (simp [AZ]at h)
theorem binOp_neq{t:TypeId}{a b:Value} (h:AZ a=false):binOp .neq t a b=(do pure (.bool (!(<-Op.equal t a b)))):=by
 cases a<;>cases b<;>first | rfl | (simp [AZ]at h)
theorem Wb (op:BinOp) (t:TypeId) (x y:Operand){a b:Value} (ha:AZ a=true) (w:World):(eqGuard op t x y a b).run P w= .ok () w:=by
 unfold eqGuard;cases op<;>cases a<;>first | (simp [AZ]at ha;done) | (cases b<;>rfl)
theorem Pm{op:BinOp}{t:TypeId}{a b a' b':Value}{K:Value->Bool} (hk:Ci P op t a b K=true) (ha:VR U a a') (hb:VR U b b'):
 ∃v,K v=true/\bW v=true/\∀(x y:Operand) (w:World),((do eqGuard op t x y a' b';binOp op t a' b'):Sem Value).run P w= .ok v w:=by
 unfold Ci at hk;split at hk
 ·rename_i k x k' y
  rw [ha.of_flat rfl,hb.of_flat rfl]
  have fin:∀v,K v=true->bW v=true->(∀(P:Program) (t:TypeId) (w:World),(binOp op t (.int k x) (.int k' y)).run P w= .ok v w)->∃v,K v=true/\bW v=true/\∀(x' y':Operand) (w:World),((do eqGuard op t x' y' (.int k x) (.int k' y);binOp op t (.int k x) (.int k' y)):Sem Value).run P w= .ok v w:=
   fun v h1 h2 h3=>⟨v,h1,h2,fun x' y' w=>by rw [cR,Wb op t x' y' rfl];exact h3 P t w⟩
  split at hk
  ·obtain⟨v,h1,h2,h3⟩:=Ey (k':=k') hk;exact fin v h1 h2 h3
  ·obtain⟨v,h1,h2,h3⟩:=Ey (k':=k') hk;exact fin v h1 h2 h3
  ·split at hk
   ·rename_i hj
    have:=LA hj;subst this;obtain⟨v,h1,h2,_,_,h3⟩:=Uf hk;exact fin v h1 h2 h3
   ·cases hk
 ·rename_i x y
  rw [ha.of_flat rfl,hb.of_flat rfl];obtain⟨v,h1,h2,h3⟩:=Ug hk;exact⟨v,h1,h2,fun x' y' w=>by rw [cR,Wb op t x' y' rfl];exact h3 P t w⟩
 ·split at hk
  ·have hs:=Fe hk
   obtain⟨e,he,h1,h2⟩:=SD hk ha hb;rw [rZ]at he;exact⟨_,he,rfl,fun x y w=>by rw [cR,h2,eL,binOp_eql (by rw [ha.AZ,hs])];simp [h1]⟩
  ·have hs:=Fe hk
   obtain⟨e,he,h1,h2⟩:=SD hk ha hb;rw [rZ]at he;exact⟨_,he,rfl,fun x y w=>by rw [cR,h2,eL,binOp_neq (by rw [ha.AZ,hs])];simp [h1]⟩
  ·cases hk
theorem Vs{op:UnOp}{a a':Value}{K:Value->Bool} (hk:unK op a K=true) (ha:VR U a a'):
 ∃v,K v=true/\bW v=true/\∀(w:World),(Op.unary op a').run P w= .ok v w:=by
 unfold unK at hk;split at hk
 ·rw [Zb]at hk
  rw [ha.of_flat rfl];exact⟨_,hk,rfl,fun w=>rfl⟩
 ·rw [oF]at hk
  rw [ha.of_flat rfl];exact⟨_,hk,rfl,fun w=>rfl⟩
 ·rw [rZ]at hk
  rw [ha.of_flat rfl];exact⟨_,hk,rfl,fun w=>rfl⟩
 ·cases hk
theorem Im{d:Nat}{x:Option Value}{k:Nat->Bool} (hk:aGy d x k=true):∃n,k n=true/\(x=none/\n=d\/∃kd,x=some (.int kd (.ofNat n))):=by
 unfold aGy at hk;split at hk
 ·exact⟨d,hk,.inl ⟨rfl,rfl⟩⟩
 ·rename_i kd n;exact⟨n,hk,.inr ⟨kd,rfl⟩⟩
 ·cases hk
def Lq (U:Rn) (x x':Option Value):Prop:=(x=none/\x'=none)\/∃v v',x=some v/\x'=some v'/\VR U v v'
theorem Lq.int{x x':Option Value} (h:Lq U x x'){kd:IntKind}{n:Nat} (e:x=some (.int kd (.ofNat n))):x'=some (.int kd (.ofNat n)):=by
 rcases h with ⟨h,_⟩ | ⟨v,v',h1,h2,hr⟩
 ·rw [e]at h;cases h
 ·rw [e]at h1;injection h1 with h1;subst h1
  rw [h2,hr.of_flat rfl]
theorem Lq.none{x x':Option Value} (h:Lq U x x') (e:x=none):x'=none:=by
 rcases h with ⟨_,h⟩ | ⟨v,v',h1,_⟩
 ·exact h
 ·rw [e]at h1;cases h1
theorem HG{len cap:Nat}{lo hi mx Nd Co Dw:Option Value}{k:Nat->Nat->Nat->Bool} (hk:RU len cap lo hi mx k=true)
 (hl:Lq U lo Nd) (hh:Lq U hi Co) (hm:Lq U mx Dw):
 ∃l h m,k l h m=true/\l<=h/\h<=m/\m<=cap/\(mx=none->m=cap)/\∀(Io:Nat),cap<=Io->(Dw=none->mx=none)->∀(isSlice:Bool) (w:World),(Dw=none\/Co≠none)->
  (Instr.sliceBounds isSlice len Io Nd Co Dw).run P w= .ok (l,h,if Dw=none then Io else m) w:=by
 unfold RU at hk;obtain⟨m,hk,em⟩:=Im hk;obtain⟨h,hk,eh⟩:=Im hk;obtain⟨l,hk,el⟩:=Im hk;split at hk
 ·rename_i h1 h2 h3
  have h1:=cG h1;have h2:=cG h2;have h3:=cG h3;refine⟨l,h,m,hk,h1,h2,h3,fun e=>?_,fun Io hc hmm isS w hhi=>?_⟩
  ·rcases em with ⟨_,e'⟩ | ⟨kd,e'⟩
   ·exact e'
   ·rw [e]at e';cases e'
  ·have elo:(match Nd with | some v=>Instr.sliceBound v h (if Dw.isSome then .slice3C else .sliceB) | none=>(pure 0:Sem Nat)).run P w= .ok l w:=by
    rcases el with ⟨e,e'⟩ | ⟨kd,e⟩
    ·rw [hl.none e,e'];rfl
    ·rw [hl.int e];simp [Instr.sliceBound,asIntOf,h1]
   rcases em with ⟨e,e'⟩ | ⟨kd,e⟩
   ·have emx:=hm.none e
    subst emx
    have ehi:(match Co with | some v=>Instr.sliceBound v Io (if isS then .sliceAcap else .sliceAlen) | none=>(pure len:Sem Nat)).run P w= .ok h w:=by
     rcases eh with ⟨e2,e2'⟩ | ⟨kd2,e2⟩
     ·rw [hh.none e2,e2'];rfl
     ·rw [hh.int e2];simp [Instr.sliceBound,asIntOf];omega
    unfold Instr.sliceBounds;cases Co with
    | none=>
     simp at ehi;cases Nd with
     | none=>simp at elo;simp [elo,ehi]
     | some u=>simp at elo;simp [elo,ehi]
    | some v=>
     simp at ehi;cases Nd with
     | none=>simp at elo;simp [elo,ehi]
     | some u=>simp at elo;simp [elo,ehi]
   ·have emx:=hm.int e
    subst emx;have aSE:Co≠none:=by rcases hhi with h | h;cases h;exact h
    rcases eh with ⟨e2,_⟩ | ⟨kd2,e2⟩
    ·exact aX (hh.none e2) aSE
    ·have ehi:=hh.int e2
     subst ehi;simp only [Option.isSome_some,if_true]at elo;have r1:(Instr.sliceBound (.int kd (.ofNat m)) Io (if isS then .slice3Acap else .slice3Alen)).run P w= .ok m w:=by simp [Instr.sliceBound,asIntOf];omega
     have r2:(Instr.sliceBound (.int kd2 (.ofNat h)) m .slice3B).run P w= .ok h w:=by simp [Instr.sliceBound,asIntOf];omega
     unfold Instr.sliceBounds;cases Nd with
     | none=>
      simp at elo;simp only [cR,r1,eL,r2,kR];simp [elo]
     | some u=>
      simp only at elo;simp only [cR,r1,eL,r2,kR,Option.isSome_some,if_true,elo];simp
 ·cases hk
end
section
variable{P:Program}{w0:World}{U:Rn}{S:St}{w:World}
theorem gJ{t e:TypeId} (h:isSlice P t=some e):P.underlying t=some (.slice e):=by
 unfold isSlice at h;split at h
 ·rename_i hu;injection h with h;subst h;exact hu
 ·cases h
theorem aBK (s:ByteArray) (l h:Nat) (_:h<=s.size):s.extract l h=⟨⟨(s.data.toList.take h).drop l⟩⟩:=by
 apply ByteArray.ext;apply jF.1;simp [ByteArray.data_extract,aC9,List.extract_eq_take_drop,List.drop_take]
theorem El (h:Rel P w0 U S w){t:TypeId}{x x':Value}{lo hi mx Nd Co Dw:Option Value}{K:Value->Bool} (hk:vI P t x lo hi mx S K=true)
 (hx:VR U x x') (hl:Lq U lo Nd) (hh:Lq U hi Co) (hm:Lq U mx Dw) (hmh:Dw=none\/Co≠none):
 ∃v v',K v=true/\VR U v v'/\∀w,(Instr.sliceAt t x' Nd Co Dw).run P w= .ok v' w:=by
 have hmm:Dw=none->mx=none:=fun e=>by
  rcases hm with ⟨h,_⟩ | ⟨_,_,_,h,_⟩
  ·exact h
  ·rw [e]at h;cases h
 unfold vI at hk;split at hk
 ·
   rename_i s;split at hk
   ·rename_i hu
    rw [hx.of_flat rfl];rw [oE]at hk;obtain⟨l,h',m,hk,h1,h2,h3,h4,fU⟩:=HG (P:=P) hk hl hh (.inl ⟨rfl,rfl⟩);rw [HQ]at hk;have hsz:s.data.toList.length=s.size:=rfl;split at hk
    ·rename_i hle
     rw [DR]at hk;split at hk
     ·refine⟨_,_,hk,.flat rfl,fun w=>?_⟩
      have e1:=hm.none rfl;subst e1;have:=fU s.data.toList.length (bO _) (fun _=>rfl) false w (.inl rfl);rw [hsz]at this;simp only [if_true]at this;simp [Instr.sliceAt,run_underlying hu,Instr.slice,this,aBK s l h' (by omega)]
     ·cases hk
    ·cases hk
   ·cases hk
 ·
   rename_i len cap;split at hk
   ·rename_i e he
    have hu:=gJ he;split at hk
    ·rename_i size hsz
     rw [hx.of_flat rfl];obtain⟨l,h',m,xE,h1,h2,h3,h4,fU⟩:=HG (P:=P) hk hl hh hm;simp only [bH]at xE;refine⟨_,.slice none (h'-l) (m-l),xE,.flat rfl,fun w=>?_⟩;have:=fU cap (bO _) hmm true w hmh
     have em:(if Dw=none then cap else m)=m:=by
      split
      ·rename_i e2;exact(h4 (hmm e2)).symm
      ·rfl
     rw [em]at this;simp [Instr.sliceAt,run_underlying hu,Instr.slice,this,jG hsz]
    ·cases hk
   ·cases hk
 ·
   rename_i i o sp len cap;split at hk
   ·rename_i e he
    have hu:=gJ he;split at hk
    ·rename_i size hsz
     obtain⟨l,h',m,xE,h1,h2,h3,h4,fU⟩:=HG (P:=P) hk hl hh hm;simp only [bH]at xE;clear hk
     have go:∀(a:Addr) (Io:Nat),cap<=Io->∀w,(Instr.sliceAt t (.slice (some a) len Io) Nd Co Dw).run P w=
      .ok (.slice (some (if(if Dw=none then Io else m)=l then a else a.add (l*size))) (h'-l) ((if Dw=none then Io else m)-l)) w:=by
      intro a Io hc w;have:=fU Io hc hmm true w hmh;have e1:∀(q:Nat),(if q=l then some a else some (a.add (l*size)))=some (if q=l then a else a.add (l*size)):=fun q=>by split<;>rfl
      simp [Instr.sliceAt,run_underlying hu,Instr.slice,this,jG hsz,e1]
     cases hx with
     | flat h=>simp [bW]at h
     | @slice _ _ _ _ L hL=>
      have em:(if Dw=none then cap else m)=m:=by
       split
       ·rename_i e2;exact(h4 (hmm e2)).symm
       ·rfl
      have Tj:=go ⟨L.b,L.s+o,none⟩ cap (bO _);simp only [em]at Tj
      replace xE:(match Nat.beq m l with | true=>K (.slice (some ⟨i,o,none⟩) (h'-l) (m-l)) | false=>K (.slice (some ⟨i,o+l*size,none⟩) (h'-l) (m-l)))=true:=xE
      split at xE
      ·rename_i VH
       have VH:=dI VH;exact⟨_,_,xE,.slice hL,fun w=>by rw [Tj w,aK VH]⟩
      ·rename_i VH
       have VH:m≠l:=fun e=>by subst e;simp at VH
       exact⟨_,_,xE,.slice hL,fun w=>by rw [Tj w,aG VH,rX,vG]⟩
     | @rW _ _ _ _ c' L hL hc hn Ua hmp=>
      have Tj:=go ⟨L.b,L.s+o,none⟩ c' hc;cases mx with
      | some y=>
       have oX:Dw≠none:=fun e=>by have:=hmm e;cases this
       simp only [aG oX]at Tj
       replace xE:(match Nat.beq m l with | true=>K (.slice (some ⟨i,o,none⟩) (h'-l) (m-l)) | false=>K (.slice (some ⟨i,o+l*size,none⟩) (h'-l) (m-l)))=true:=xE
       split at xE
       ·rename_i VH
        have VH:=dI VH;exact⟨_,_,xE,.slice hL,fun w=>by rw [Tj w,aK VH]⟩
       ·rename_i VH
        have VH:m≠l:=fun e=>by subst e;simp at VH
        exact⟨_,_,xE,.slice hL,fun w=>by rw [Tj w,aG VH,rX,vG]⟩
      | none=>
       have he':=hm.none rfl;subst he';simp only [if_true]at Tj;have hm':=h4 rfl;subst hm'
       replace xE:(match Nat.beq m l with | true=>K (.slice (some ⟨i,0,some 1⟩) 0 0) | false=>(DM S i fun _ e ck=>match ck,cQ P e with | .exact,_=>false | _,some q=>(match Nat.beq q size with | true=>K (.slice (some ⟨i,o+l*size,some 0⟩) (h'-l) (m-l)) | false=>false) | _,none=>false))=true:=xE
       split at xE
       ·rename_i VH
        have VH:=dI VH;have e0:h'-l=0:=by omega
        refine⟨_,.slice (some (if c'=l then⟨L.b,L.s+o,none⟩else(⟨L.b,L.s+o,none⟩:Addr).add (l*size))) 0 (c'-l),xE,.DP,fun w=>?_⟩;rw [Tj w,e0]
       ·rename_i VH
        have VH:m≠l:=fun e=>by subst e;simp at VH
        obtain⟨vs,e',ck,ho,xE⟩:=HT xE;obtain⟨cs,tt,fz,hb,_,EA⟩:=h.cells ho hL;cases hq:cQ P e' with
        | none=>rw [hq]at xE;cases ck<;>cases xE
        | some q=>
         rw [hq]at xE;have oX:ck≠ .exact:=by rintro rfl;cases xE
         have vZ:(match Nat.beq q size with | true=>K (.slice (some ⟨i,o+l*size,some 0⟩) (h'-l) (m-l)) | false=>false)=true:=by cases ck<;>first | exact xE | exact aX rfl oX
         split at vZ
         ·rename_i hqs
          have hqs:=dI hqs;subst hqs
          have hm:L.m=q:=by
           cases ck with
           | exact=>exact aX rfl oX
           | grown _=>obtain⟨_,_,_,h5,_⟩:=EA;rw [hq]at h5;injection h5 with h5;exact h5.symm
           | uT=>obtain⟨_,h5,_⟩:=EA;rw [hq]at h5;injection h5 with h5;exact h5.symm
           | ro=>have h5:cQ P e'=some L.m:=EA;rw [hq]at h5;injection h5 with h5;exact h5.symm
           | rs=>have h5:=EA.1;rw [hq]at h5;injection h5 with h5;exact h5.symm
          refine⟨_,.slice (some ⟨L.b,L.s+(o+l*q),none⟩) (h'-l) (c'-l),vZ,(.rW hL (by omega) (by omega) ?_ hmp),fun w=>by rw [Tj w,aG (by omega),rX,vG]⟩;rw [hm]at Ua ⊢;have:l*q+(c'-l)*q=c'*q:=by rw [<-KU];congr 1;omega
          omega
         ·cases vZ
     | @DP _ c' a=>
      have e0:l=0/\h'=0/\m=0:=by omega
      obtain⟨rfl,rfl,rfl⟩:=e0;have Tj:=go a c' (BP _)
      replace xE:K (.slice (some ⟨i,0,some 1⟩) 0 0)=true:=xE
      refine⟨_,.slice (some a) 0 ((if Dw=none then c' else 0)-0),xE,.DP,fun w=>?_⟩;rw [Tj w];simp [Addr.add]
     | @DQ _ _ s sp2 uR=>
      have e0:l=0/\h'=0/\m=0:=by omega
      obtain⟨rfl,rfl,rfl⟩:=e0;have Tj:=go ⟨i,o,sp2⟩ 0 (BP _)
      replace xE:K (.slice (some ⟨i,0,some 1⟩) 0 0)=true:=xE
      refine⟨_,.slice (some ⟨i,o,sp2⟩) 0 ((if Dw=none then 0 else 0)-0),xE,.DP,fun w=>?_⟩;rw [Tj w];simp []
    ·cases hk
   ·cases hk
 ·
   rename_i i o;split at hk
   ·rename_i n e hu
    split at hk
    ·rename_i size hsz
     obtain⟨l,h',m,xE,h1,h2,h3,h4,fU⟩:=HG (P:=P) hk hl hh hm;simp only [bH]at xE;clear hk
     have em:(if Dw=none then n else m)=m:=by
      split
      ·rename_i e2;exact(h4 (hmm e2)).symm
      ·rfl
     cases hx with
     | flat h=>simp [bW]at h
     | @ptr _ _ L hL=>
      have Tj:∀w,(Instr.sliceAt t (.pointer (some ⟨L.b,L.s+o,none⟩)) Nd Co Dw).run P w= .ok (.slice (some (if m=l then⟨L.b,L.s+o,none⟩else(⟨L.b,L.s+o,none⟩:Addr).add (l*size))) (h'-l) (m-l)) w:=by
       intro w;have:=fU n (bO _) hmm false w hmh;rw [em]at this;simp [Instr.sliceAt,run_underlying hu,Instr.sureAddr,this,jG hsz]
      split at xE
      ·rename_i VH
       have VH:=dI VH;exact⟨_,_,xE,.slice hL,fun w=>by rw [Tj w,aK VH]⟩
      ·rename_i VH
       have VH:m≠l:=fun e=>by subst e;simp at VH
       exact⟨_,_,xE,.slice hL,fun w=>by rw [Tj w,aG VH,rX,vG]⟩
    ·cases hk
   ·cases hk
 ·cases hk
end
section
variable{P:Program}{w0:World}{U:Rn}{S:St}{w:World}
theorem VR.mZ{i o:Nat}{sp:Option Nat}{n c:Nat}{v':Value} (h:VR U (.slice (some ⟨i,o,sp⟩) n c) v'):
 (∃L c',U i=some L/\v'= .slice (some ⟨L.b,L.s+o,none⟩) n c'/\((sp=none/\c'=c)\/(sp=some 0/\c<=c'/\n<=c/\L.s+o+c'*L.m=L.e/\0<L.m)))\/((∃s,sp=some (s+1))/\n=0/\c=0/\∃a c',v'= .slice (some a) 0 c'):=by
 cases h with
 | flat h=>simp [bW]at h
 | slice hL=>exact .inl ⟨_,_,hL,rfl,.inl ⟨rfl,rfl⟩⟩
 | rW hL hc hn he hm=>exact .inl ⟨_,_,hL,rfl,.inr ⟨rfl,hc,hn,he,hm⟩⟩
 | DP=>exact .inr ⟨⟨_,rfl⟩,rfl,rfl,_,_,rfl⟩
 | DQ _=>exact .inr ⟨⟨_,rfl⟩,rfl,rfl,_,_,rfl⟩
theorem VR.KC{i o:Nat}{sp:Option Nat}{v':Value} (h:VR U (.pointer (some ⟨i,o,sp⟩)) v'):sp=none/\∃L,U i=some L/\v'= .pointer (some ⟨L.b,L.s+o,none⟩):=by
 cases h with
 | flat h=>simp [bW]at h
 | ptr hL=>exact⟨rfl,_,hL,rfl⟩
theorem PV{t:TypeId}{x x' ix ix':Value}{K:Value->Bool} (hk:FX P t x ix K=true) (hx:VR U x x') (hi:VR U ix ix'):
 ∃v v',K v=true/\VR U v v'/\∀w,(Instr.indexAt t x' ix').run P w= .ok v' w:=by
 unfold FX at hk;split at hk
 ·rename_i kd j
  rw [hi.of_flat rfl];split at hk
  ·rename_i b o sp len c
   rcases hx.mZ with ⟨L,c',hL,rfl,AW⟩ | ⟨⟨_,rfl⟩,_⟩
   ·have vZ:(match isSlice P t with
     | some elem=>(match cQ P elem,Nat.blt j len with
      | some size,true=>bV (o+j*size) fun o=>K (.pointer (some ⟨b,o,none⟩))
      | _,_=>false)
     | none=>false)=true:=by
     rcases AW with ⟨rfl,_⟩ | ⟨rfl,_⟩<;>exact hk
    split at vZ
    ·rename_i e he
     have hu:=gJ he;split at vZ
     ·rename_i size hsz hj
      have hj:j<len:=cG hj;rw [bH]at vZ;refine⟨_,_,vZ,.ptr hL,fun w=>?_⟩;simp [Instr.indexAt,asIntOf,run_underlying hu,hj,jG hsz,rX,vG]
     ·cases vZ
    ·cases vZ
   ·cases hk
  ·rename_i b o
   obtain⟨_,L,hL,rfl⟩:=hx.KC;split at hk
   ·rename_i len e hu
    split at hk
    ·rename_i size hsz hj
     have hj:j<len:=cG hj;rw [bH]at hk;refine⟨_,_,hk,.ptr hL,fun w=>?_⟩;simp [Instr.indexAt,asIntOf,run_underlying hu,Instr.sureAddr,hj,jG hsz,rX,vG]
    ·cases hk
   ·cases hk
  ·cases hk
 ·cases hk
theorem Eb{s:TypeId}{f:Nat}{fd:Field} (h:DN P s f=some fd):∃fs,P.underlying s=some (.struct fs)/\fs[f]? =some fd:=by
 unfold DN at h;split at h
 ·rename_i fs hu;exact⟨fs,hu,h⟩
 ·cases h
theorem PW{s:TypeId}{x x':Value}{f:Nat}{K:Value->Bool} (hk:FY P s x f K=true) (hx:VR U x x'):
 ∃v v',K v=true/\VR U v v'/\∀w,(Instr.fieldAt s x' f).run P w= .ok v' w:=by
 unfold FY at hk;split at hk
 ·rename_i b o
  obtain⟨_,L,hL,rfl⟩:=hx.KC;split at hk
  ·rename_i fd hf
   obtain⟨fs,hu,hfs⟩:=Eb hf;split at hk
   ·rename_i q hsz
    rw [bH]at hk;refine⟨_,_,hk,.ptr hL,fun w=>?_⟩;simp [Instr.fieldAt,run_underlying hu,hfs,Instr.sureAddr,fieldPlace,jG hsz,rX,vG]
   ·cases hk
  ·cases hk
 ·cases hk
theorem Jy{t:TypeId}{cs:List Value}{cs':Array Value}{off:Nat}{K:Value->Bool} (hk:Vj P t cs off K=true) (wL:lZ U cs cs'.toList):
 ∃v v',K v=true/\VR U v v'/\∀w,(part t cs' off).run P w= .ok v' w:=by
 unfold Vj at hk;split at hk
 ·rename_i aDh
  obtain⟨v,hv,hk⟩:=PX hk;obtain⟨v',PY,hr⟩:=wL.get hv;rw [Nz]at PY;exact⟨v,v',hk,hr,fun w=>by simp [part,KY aDh,PY]⟩
 ·rename_i aDh
  split at hk
  ·rename_i n hsz
   rw [DR]at hk;split at hk
   ·rw [HQ]at hk
    split at hk
    ·rename_i h1 h2
     refine⟨_,.agg ⟨(cs'.toList.drop off).take n⟩,hk,.Yb ((wL.drop off).take n),fun w=>?_⟩
     have:cs'.extract off (off+n)=⟨(cs'.toList.drop off).take n⟩:=by
      apply jF.1;simp [aC9,List.extract_eq_take_drop]
     simp [part,KY aDh,jG hsz,this]
    ·cases hk
   ·cases hk
  ·cases hk
 ·cases hk
theorem Ec{t:TypeId}{x x':Value}{f:Nat}{K:Value->Bool} (hk:WD P t x f K=true) (hx:VR U x x'):
 ∃v v',K v=true/\VR U v v'/\∀w,(Instr.field t x' f).run P w= .ok v' w:=by
 unfold WD at hk;split at hk
 ·rename_i cs
  obtain⟨cs',rfl,wL⟩:=hx.NH;split at hk
  ·rename_i fd hf
   obtain⟨fs,hu,hfs⟩:=Eb hf;obtain⟨v,v',h1,h2,h3⟩:=Jy hk wL;exact⟨v,v',h1,h2,fun w=>by simp [Instr.field,run_underlying hu,hfs,asAgg,h3]⟩
  ·cases hk
 ·cases hk
theorem Ed{t:TypeId}{x x' ix ix':Value}{K:Value->Bool} (hk:Ib P t x ix K=true) (hx:VR U x x') (hi:VR U ix ix'):
 ∃v v',K v=true/\VR U v v'/\∀w,(Instr.index t x' ix').run P w= .ok v' w:=by
 unfold Ib at hk;split at hk
 ·rename_i kd j
  rw [hi.of_flat rfl];split at hk
  ·rename_i cs
   obtain⟨cs',rfl,wL⟩:=hx.NH;split at hk
   ·rename_i len e hu
    split at hk
    ·rename_i size hsz hj
     have hj:j<len:=cG hj;obtain⟨v,v',h1,h2,h3⟩:=Jy hk wL;exact⟨v,v',h1,h2,fun w=>by simp [Instr.index,asIntOf,run_underlying hu,hj,jG hsz,h3]⟩
    ·cases hk
   ·cases hk
  ·rename_i s
   rw [hx.of_flat rfl];split at hk
   ·rename_i hu
    obtain⟨b,hb,hk⟩:=PX hk;rw [bH]at hk;refine⟨_,_,hk,.flat rfl,fun w=>?_⟩
    have TV:s[j]? =some b:=by
     rw [Nz]at hb;obtain⟨h1,h2⟩:=sQ.1 hb;have h3:j<s.size:=h1;rw [getElem?_pos s j h3]
     congr 1
    simp [Instr.index,asIntOf,run_underlying hu,TV]
   ·cases hk
  ·cases hk
 ·cases hk
theorem Yc (l:List Value):∀(off n:Nat) (cs:Array Value),off+n+l.length<=cs.size->
 ((l.zipIdx n).foldl (fun cs (x:Value×Nat)=>cs.setIfInBounds (off+x.2) x.1) cs).toList=aY (off+n) l cs.toList:=by
 induction l with
 | nil=>intro off n cs _;simp [aY]
 | cons v l ih=>
  intro off n cs h;simp only [List.zipIdx_cons,Oi];rw [ih off (n+1) _ (by simp at h ⊢;omega)];apply xQ;intro j;have hl:cs.toList.length=cs.size:=rfl;rw [sV _ _ _ (by simp at h ⊢;omega),sV _ _ _ (by simp at h ⊢;omega)];simp only [Br,oN];by_cases h2:j=off+n
  ·subst h2
   rw [aG (by omega),aK (by omega),Nat.sub_self];have:off+n<cs.size:=by simp at h;omega
   simp [this]
  ·by_cases h3:off+(n+1)<=j/\j<off+(n+1)+l.length
   ·rw [aK h3,aK (by omega)]
    obtain⟨q,rfl⟩:∃q,j=off+n+(q+1):=⟨j-(off+n+1),by omega⟩;rw [show off+n+(q+1)-(off+(n+1))=q by omega,show off+n+(q+1)-(off+n)=q+1 by omega];simp
   ·rw [aG h3,aG (by omega),IP (by omega)]
def Ox (U:Rn) (l l':List (Nat×Value)):Prop:=l.length=l'.length/\∀(k:Nat) (p p':Nat×Value),l[k]? =some p->l'[k]? =some p'->p.1=p'.1/\VR U p.2 p'.2
theorem Ox.dM{p:Nat×Value}{l l':List (Nat×Value)} (h:Ox U (p::l) l'):∃p' t',l'=p'::t'/\p.1=p'.1/\VR U p.2 p'.2/\Ox U l t':=by
 cases l' with
 | nil=>have:=h.1;simp at this
 | cons p' t'=>
  obtain⟨h1,h2⟩:=h.2 0 p p' rfl rfl;exact⟨p',t',rfl,h1,h2,by simpa using h.1,fun k q q' a b=>h.2 (k+1) q q' (by simpa using a) (by simpa using b)⟩
theorem NI{place place':Nat->Option (Nat×Nat)} (xN:∀i q,place i=some q->place' i=some q):∀{parts parts':List (Nat×Value)} {cells:List Value} {cells':Array Value} {k:List Value->Bool},
 Ak place parts cells k=true->Ox U parts parts'->lZ U cells cells'.toList->∃out Tp,k out=true/\Instr.fill place' cells' parts'=some Tp/\lZ U out Tp.toList/\out.length=cells.length:=by
 intro parts;induction parts with
 | nil=>
  intro parts' cells cells' k hk hp hc;have:parts'=[]:=sO hp.1.symm;subst this;exact⟨cells,cells',hk,rfl,hc,rfl⟩
 | cons p parts ih=>
  intro parts' cells cells' k hk hp hc;obtain⟨p',t',rfl,h1,h2,ht⟩:=hp.dM
  have xE:(match place p.1 with
   | some (off,size)=>pX p.2 fun new=>KW new fun m=>match Nat.beq m size with
    | true=>tP off new cells fun cs=>Ak place parts cs k
    | false=>false
   | none=>false)=true:=hk
  split at xE
  ·rename_i off size hq
   obtain⟨new,xE,RX,Yd,_⟩:=HB xE h2;rw [oE]at xE;split at xE
   ·rename_i hm
    have hm:=dI hm;rw [BQ]at xE;split at xE
    ·rename_i hlen
     have hsz:p'.2.cells.size=size:=by rw [<-hm,Yd.1];rfl
     have Du:cells.length=cells'.size:=hc.1;have Ye:new.length=p'.2.cells.size:=Yd.1
     have e1:(p'.2.cells.zipIdx.foldl (fun cs (x:Value×Nat)=>cs.setIfInBounds (off+x.2) x.1) cells').toList=aY off p'.2.cells.toList cells'.toList:=by
      rw [<-aDe,Array.toList_zipIdx];exact Yc p'.2.cells.toList off 0 cells' (by have:p'.2.cells.toList.length=p'.2.cells.size:=rfl;omega)
     obtain⟨out,Tp,g1,g2,g3,g4⟩:=ih (cells':=p'.2.cells.zipIdx.foldl (fun cs (x:Value×Nat)=>cs.setIfInBounds (off+x.2) x.1) cells') xE ht (by rw [e1];exact hc.aY Yd off);refine⟨out,Tp,g1,?_,g3,by rw [g4,HC _ _ _ hlen]⟩;obtain⟨i',v'⟩:=p';simp only at h1;simp only [Instr.fill,<-h1,xN _ _ hq];have c1:(v'.cells.size != size)=false:=by simp;exact hsz
     have c2:¬off+v'.cells.size>cells'.size:=by
      have:v'.cells.size=new.length:=by rw [Ye]
      omega
     rw [aG (by simp;have:v'.cells.size=new.length:=by rw [Ye]
                omega)]
     exact g2
    ·cases xE
   ·cases xE
  ·cases xE
end
section
variable{P:Program}{w0:World}{U:Rn}{S:St}{w:World}
theorem KD (h:Rel P w0 U S w){A:bA}{a:Act} (hA:BR P U A a):∀{parts:List (Nat×Operand)} {k:List (Nat×Value)->Bool},IS A parts k=true->
 ∃ps,k ps=true/\Ox U ps (parts.map fun p=>(p.1,a.eval p.2)):=by
 intro parts;induction parts with
 | nil=>intro k hk;exact⟨[],hk,rfl,by simp⟩
 | cons p parts ih=>
  intro k hk;obtain⟨v,hv,hr⟩:=aT h hA (show wA A p.2 (fun v=>IS A parts fun l=>k ((p.1,v)::l))=true from hk);obtain⟨ps,WG,hrs⟩:=ih hv;refine⟨(p.1,v)::ps,WG,by simp [hrs.1],fun j q q' x y=>?_⟩;cases j with
  | zero=>simp at x y;subst x y;exact⟨rfl,hr⟩
  | succ j=>simp at x;exact hrs.2 j q q' x (by simpa using y)
theorem Yf:∀(fs:List Field) (pl:List (Nat×Nat)),placesOf P fs=some pl->∀w,(fs.mapM (fun f=>(do pure (f.offset,<-sizeOf f.type):Sem (Nat×Nat)))).run P w= .ok pl w:=by
 intro fs;induction fs with
 | nil=>intro pl h w;simp [placesOf]at h;subst h;rfl
 | cons f fs ih=>
  intro pl h w;simp only [placesOf,Hy]at h;cases hs:cQ P f.type with
  | none=>simp [hs]at h
  | some s=>
   cases hp:fs.mapM (fun f=>(cQ P f.type).map fun s=>(f.offset,s))with
   | none=>simp [hs,hp]at h
   | some pl'=>
    simp [hs,hp]at h;subst h;have:=ih pl' hp w;simp only [Hy,cR,jG hs,eL,kR,this]
theorem Ee (h:Rel P w0 U S w){A:bA}{a:Act} (hA:BR P U A a){t:TypeId}{parts:Array (Nat×Operand)}{K:Value->Bool} (hk:Ow P A t parts.toList K=true):
 ∃v v',K v=true/\VR U v v'/\∀w,(Instr.build t (parts.map fun p=>(p.1,a.eval p.2))).run P w= .ok v' w:=by
 unfold Ow at hk;split at hk
 ·rename_i zero fields hz hu
  split at hk
  ·rename_i pl xN
   split at hk
   ·rename_i Jz
    obtain⟨ps,hk,WG⟩:=KD h hA hk;have Vm:lZ U zero zero:= .flat (by rw [nG]at Jz;exact dL.1 Jz);obtain⟨out,Tp,g1,g2,g3,_⟩:=NI (place':=(pl.toArray[·]?)) (cells':=⟨zero⟩) (by intro i q hq;simpa using hq) hk WG Vm;refine⟨_,.agg Tp,g1,.Yb g3,fun w=>?_⟩;obtain⟨zv,If,Tf⟩:=GA hz w;have ez:zv.cells=⟨zero⟩:=jF.1 Tf;have hpr:=Yf fields.toList pl xN w
    have aR9:(fields.mapM (fun f=>(do pure (f.offset,<-sizeOf f.type):Sem (Nat×Nat)))).run P w= .ok pl.toArray w:=by
     rw [Array.mapM_eq_mapM_toList,Sem.run_map,hpr];rfl
    simp only [Instr.build,cR,If,eL,run_underlying hu,aR9,ez];have e2:(parts.map fun p=>(p.1,a.eval p.2)).toList=parts.toList.map fun p=>(p.1,a.eval p.2):=by simp
    rw [e2,g2];rfl
   ·cases hk
  ·cases hk
 ·rename_i zero n elem hz hu
  split at hk
  ·rename_i size hsz
   split at hk
   ·rename_i Jz
    obtain⟨ps,hk,WG⟩:=KD h hA hk;have Vm:lZ U zero zero:= .flat (by rw [nG]at Jz;exact dL.1 Jz);obtain⟨out,Tp,g1,g2,g3,_⟩:=NI (place':=fun i=>some (i*size,size)) (cells':=⟨zero⟩) (by intro i q hq;exact hq) hk WG Vm;refine⟨_,.agg Tp,g1,.Yb g3,fun w=>?_⟩;obtain⟨zv,If,Tf⟩:=GA hz w;have ez:zv.cells=⟨zero⟩:=jF.1 Tf;have e2:(parts.map fun p=>(p.1,a.eval p.2)).toList=parts.toList.map fun p=>(p.1,a.eval p.2):=by simp
    simp only [Instr.build,cR,If,eL,run_underlying hu,jG hsz,ez];rw [e2,g2];rfl
   ·cases hk
  ·cases hk
 ·cases hk
theorem Rel.YW (h:Rel P w0 U S w){cs cs':List Value} (wL:lZ U cs cs') (t:TypeId){K:Nat->St->Bool} (hk:zT S (.cells cs t .exact) K=true):
 ∃U' S' w',K S.n S'=true/\w'=w.alloc (.cells ⟨cs'⟩ t)/\Rel P w0 U' S' w'/\xZ U w U' w'/\∃L,U' S.n=some L/\L.b=w.heap.size/\L.s=0:=by
 rw [jH]at hk;obtain⟨h1,h2⟩:=h.aH7 wL t 0;exact⟨_,_,_,hk,rfl,h1,h2,_,Rn.mW _ _ _,rfl,rfl⟩
theorem Rel.aLJ (h:Rel P w0 U S w) (ob:Obj){K:Nat->St->Bool} (hk:zT S .dead K=true):
 ∃U' S' w',K S.n S'=true/\w'=w.alloc ob/\Rel P w0 U' S' w'/\xZ U w U' w'/\∃L,U' S.n=some L/\L.b=w.heap.size/\L.s=0:=by
 rw [jH]at hk;obtain⟨h1,h2⟩:=h.new .dead ob ⟨w.heap.size,0,0,0⟩ rfl (fun _ _ _=>trivial) (fun _ hi=>nomatch hi);exact⟨_,_,_,hk,rfl,h1,h2,_,Rn.mW _ _ _,rfl,rfl⟩
theorem VR.aOc{i:Nat}{L:Loc} (h:U i=some L){b:Nat} (hb:L.b=b) (hs:L.s=0):VR U (.pointer (some ⟨i,0,none⟩)) (.pointer (some ⟨b,0,none⟩)):=by
 have:=VR.ptr (o:=0) h;rw [hb,hs]at this;exact this
theorem VR.Oy{i:Nat}{L:Loc} (h:U i=some L){b:Nat} (hb:L.b=b) (hs:L.s=0) (n c:Nat):VR U (.slice (some ⟨i,0,none⟩) n c) (.slice (some ⟨b,0,none⟩) n c):=by
 have:=VR.slice (o:=0) (n:=n) (c:=c) h;rw [hb,hs]at this;exact this
theorem aDi (h:Rel P w0 U S w){t:TypeId}{x x':Value}{K:VK} (hk:aA4 t x S K=true) (hx:VR U x x'):
 ∃U' v S' v' w',K v S'=true/\(Instr.box t x').run P w= .ok v' w'/\VR U' v v'/\Rel P w0 U' S' w'/\xZ U w U' w':=by
 unfold aA4 at hk;obtain⟨cs,hk,_,wL,_⟩:=HB hk hx;obtain⟨U',S',w',hk,hw,h1,h2,L,hL,hb,hs⟩:=h.YW wL t hk;exact⟨U',_,S',_,w',hk,by subst hw;simp [Instr.box,newVar,newRow],.aOc hL hb hs,h1,h2⟩
theorem Yg (h:Rel P w0 U S w){t:TypeId}{K:VK} (hk:WE P t S K=true):
 ∃U' v S' v' w',K v S'=true/\(Instr.alloc t true (.tuple #[])).run P w= .ok v' w'/\VR U' v v'/\Rel P w0 U' S' w'/\xZ U w U' w':=by
 unfold WE at hk;split at hk
 ·rename_i zero hz
  split at hk
  ·rename_i Jz
   rw [aE2]at hk;have Vm:lZ U zero zero:= .flat (by rw [nG]at Jz;exact dL.1 Jz);obtain⟨U',S',w',hk,hw,h1,h2,L,hL,hb,hs⟩:=h.YW Vm t hk;obtain⟨zv,If,Tf⟩:=GA hz w;have ez:zv.cells=⟨zero⟩:=jF.1 Tf;exact⟨U',_,S',_,w',hk,by subst hw;simp [Instr.alloc,If,newVar,newRow,ez],.aOc hL hb hs,h1,h2⟩
  ·cases hk
 ·cases hk
theorem Oz{t:TypeId}{z:List Value} (h:xC P t=some z){i:TypeInfo} (hi:P.info? t=some i):∃v,i.zero=some v/\v.cells.toList=z:=by
 unfold xC at h;rw [hi]at h;cases hz:i.zero with
 | none=>simp [hz]at h
 | some v=>simp [hz]at h;exact⟨v,rfl,h⟩
theorem PZ (zero:List Value) (z:Array Value) (hz:z.toList=zero) (n:Nat) (h0:zero≠[]):(Array.range (n*zero.length)).map (fun i=>z[i%z.size]!)=⟨(List.replicate n zero).flatten⟩:=by
 apply jF.1;have hsz:z.size=zero.length:=by rw [<-hz];rfl
 have Lo:0<zero.length:=List.length_pos_iff.2 h0;apply xQ;intro j;simp only [Array.toList_map,Array.toList_range,hsz];have hlen:(List.replicate n zero).flatten.length=n*zero.length:=by simp
 by_cases hj:j<n*zero.length
 ·rw [dJ,VW hj]
  have hm:j%zero.length<zero.length:=gI _ Lo
  have e1:z[j%zero.length]! =zero[j%zero.length]:=by
   rw [getElem!_pos z _ (by omega)];subst hz;rfl
  have e2:∀n j,j<n*zero.length->(List.replicate n zero).flatten[j]? =some (zero[j%zero.length]'(gI _ Lo)):=by
   intro n;induction n with
   | zero=>intro j hj;simp at hj
   | succ n ih=>
    intro j hj;simp only [IQ,OT];by_cases h1:j<zero.length
    ·rw [gV h1,aQ h1]
     congr 1;simp [OU h1]
    ·rw [kQ (by omega),ih (j-zero.length) (by rw [Cc]at hj;omega)]
     congr 1
     simp only [Nat.mod_eq_sub_mod (show j>=zero.length by omega)]
  rw [e2 n j hj];simp [e1]
 ·rw [FT (by simp;omega),FT (by rw [hlen];omega)]
theorem Ig (h:Rel P w0 U S w){t:TypeId}{l l' c c':Value}{K:VK} (hk:xW P t l c S K=true) (hl:VR U l l') (hc:VR U c c'):
 ∃U' v S' v' w',K v S'=true/\(Instr.makeSlice t l' c').run P w= .ok v' w'/\VR U' v v'/\Rel P w0 U' S' w'/\xZ U w U' w':=by
 unfold xW at hk;split at hk
 ·rename_i k1 l k2 c
  rw [hl.of_flat rfl,hc.of_flat rfl];split at hk
  ·rename_i elem he
   have hu:=gJ he;split at hk
   ·rename_i info zero hi hz
    split at hk
    ·rename_i q h1 h2 h3 h4 h5
     have h1:=cG h1;have h2:=cG h2;have h3:=cG h3;have h4:=dI h4;split at hk
     ·rename_i Jz
      obtain⟨zv,hzi,Tf⟩:=Oz hz hi;have oX:zero≠[]:=by intro e;rw [e]at h4;simp at h4;omega
      have Yh:=PZ zero zv.cells Tf c oX
      have h2':(info.bytes:Int)*(c:Int)<=1099511627776:=by
       have:((info.bytes*c:Nat):Int)<=1099511627776:=by omega
       rwa [Int.natCast_mul]at this
      have hr:=run_make (P:=P) w t elem info zv hu hi hzi k1 k2 l c (by omega) (by omega) (by omega) (by omega);simp only [Xq]at hr;have hm:madeCells zv.cells (c*info.size)=⟨(List.replicate c zero).flatten⟩:=by rw [<-Yh,h4];rfl
      split at hk
      ·rw [HD]at hk
       have Vm:lZ U zero zero:= .flat (by rw [nG]at Jz;exact dL.1 Jz);obtain⟨U',S',w',hk,hw,g1,g2,L,hL,hb,hs⟩:=h.YW (Vm.flatten c) elem hk;refine⟨U',_,S',_,w',hk,hr.trans ?_,.Oy hL hb hs l c,g1,g2⟩;rw [hw,hm]
      ·obtain⟨U',S',w',hk,hw,g1,g2,L,hL,hb,hs⟩:=h.aLJ (.cells ⟨(List.replicate c zero).flatten⟩ elem) hk
       refine⟨U',_,S',_,w',hk,hr.trans ?_,.Oy hL hb hs l c,g1,g2⟩;rw [hw,hm]
     ·cases hk
    ·cases hk
   ·cases hk
  ·cases hk
 ·cases hk
end
section
variable{P:Program}{w0:World}{U:Rn}{S:St}{w:World}
theorem Ef (h:Rel P w0 U S w){A:bA}{a:Act} (hA:BR P U A a){t:TypeId}{len:Nat}{parts:Array (Nat×Operand)}{K:VK} (hk:CH P A t len parts.toList S K=true):
 ∃U' v S' v' w',K v S'=true/\(Instr.buildSlice t len (parts.map fun p=>(p.1,a.eval p.2))).run P w= .ok v' w'/\VR U' v v'/\Rel P w0 U' S' w'/\xZ U w U' w':=by
 unfold CH at hk;split at hk
 ·rename_i elem he
  have hu:=gJ he;split at hk
  ·rename_i size zero hsz hz
   split at hk
   ·rename_i h1 h2
    have h1:=cG h1;have h2:=dI h2;split at hk
    ·rename_i Jz
     have Vm:lZ U zero zero:= .flat (by rw [nG]at Jz;exact dL.1 Jz);rw [HD]at hk;obtain⟨ps,hk,WG⟩:=KD h hA hk;obtain⟨out,Tp,g1,g2,g3,_⟩:=NI (place':=fun i=>some (i*(size+1),size+1)) (cells':=⟨(List.replicate len zero).flatten⟩) (by intro i q hq;exact hq) hk WG (Vm.flatten len);obtain⟨U',S',w',hk,hw,r1,r2,L,hL,hb,hs⟩:=h.YW g3 elem g1;refine⟨U',_,S',_,w',hk,?_,.Oy hL hb hs len len,r1,r2⟩;obtain⟨zv,If,Tf⟩:=GA hz w;have oX:zero≠[]:=by intro e;rw [e]at h2;simp at h2
     have e2:(parts.map fun p=>(p.1,a.eval p.2)).toList=parts.toList.map fun p=>(p.1,a.eval p.2):=by simp
     have hc:¬len*(size+1)>2 ^ 24:=by omega
     rw [hw];by_cases h0:len*(size+1)=0
     ·have hl0:len=0:=by
       rcases Nat.mul_eq_zero.1 h0 with h0 | h0
       ·exact h0
       ·omega
      subst hl0;have e3:(⟨(List.replicate 0 zero).flatten⟩:Array Value)= #[]:=by simp
      rw [e3]at g2;have e4:∀f:Nat->Value,(Array.range 0).map f= #[]:=fun f=>by simp
      simp only [Instr.buildSlice,cR,run_underlying hu,eL,jG hsz,VY,e4,e2,g2,newRow];rfl
     ·have Yh:=PZ zero zv.cells Tf len oX
      rw [h2]at Yh;simp only [Instr.buildSlice,cR,run_underlying hu,eL,jG hsz,aG hc,aG h0,If,kR,Yh,e2,g2,newRow];rfl
    ·cases hk
   ·cases hk
  ·cases hk
 ·cases hk
end
section
variable{P:Program}{w0:World}{U:Rn}{S:St}{w:World}
theorem Yi (l:List UInt8) (k:List Value->Bool):aH5 l k=k (l.map fun b=> .int .u8 (b.toNat:Int)):=by
 induction l generalizing k with
 | nil=>rfl
 | cons b l ih=>
  show bV b.toNat (fun n=>aH5 l fun t=>k (.int .u8 (.ofNat n)::t))=_;rw [bH,ih];rfl
theorem Ka:∀{l:List Value} {k:List UInt8->Bool},aDg l k=true->∃ns:List Nat,k (ns.map UInt8.ofNat)=true/\l=ns.map (fun n=> .int .u8 (.ofNat n)):=by
 intro l;induction l with
 | nil=>intro k hk;exact⟨[],hk,rfl⟩
 | cons v l ih=>
  intro k hk;unfold aDg at hk;rw [bU]at hk;split at hk
  ·rename_i n
   obtain⟨ns,h1,h2⟩:=ih (k:=fun t=>k (UInt8.ofNat n::t)) hk;exact⟨n::ns,h1,by rw [h2];rfl⟩
  ·cases hk
theorem lZ.aE3{l l':List Value} (h:lZ U l l') (hf:∀v∈l,bW v=true):l'=l:=by
 apply xQ;intro k;cases hk:l[k]? with
 | none=>exact h.get_none hk
 | some x=>
  obtain⟨x',Mx,hr⟩:=h.get hk;rw [Mx,hr.of_flat (hf x (BJ hk))]
theorem aA7 (h:Rel P w0 U S w){src dst:TypeId}{x x':Value}{K:VK} (hk:Jw P src dst x S K=true) (hx:VR U x x'):
 ∃U' v S' v' w',K v S'=true/\(convert src dst x').run P w= .ok v' w'/\VR U' v v'/\Rel P w0 U' S' w'/\xZ U w U' w':=by
 unfold Jw at hk;split at hk
 ·rename_i kd n
  cases hx.of_flat rfl;split at hk
  ·rename_i d k hs hd
   unfold OY at hk;rw [oF,KZ]at hk;refine⟨U,_,S,_,w,hk,?_,.flat rfl,h,.refl U w⟩;simp [convert,run_underlying hs,run_underlying hd,Conv.intToInt]
  ·cases hk
 ·rename_i s
  cases hx.of_flat rfl;split at hk
  ·rename_i hs hd
   refine⟨U,_,S,_,w,hk,?_,.flat rfl,h,.refl U w⟩;simp [convert,run_underlying hs,run_underlying hd]
  ·rename_i e hs hd
   split at hk
   ·rename_i he h1
    rw [Yi,oE,jH]at hk;have aDj:=grownCap_ge w s.size 0 e;generalize hcc:grownCap w s.size 0 e=cc at aDj
    let bs:List Value:=s.data.toList.map (fun b:UInt8=>Value.int .u8 (b.toNat:Int))
    let zs:List Value:=List.replicate (cc-s.size) (.int .u8 0)
    have hbl:bs.length=s.size:=by show(List.map _ _).length=_;rw [mH];rfl
    have My:zs.length=cc-s.size:=OQ;have aH8:bytesRow s cc=⟨bs++zs⟩:=by apply jF.1;simp [bytesRow,bs,zs]
    have hsz:(bytesRow s cc).size=cc:=by rw [aH8];show(bs++zs).length=_;rw [jZ];omega
    have RY:lZ U bs bs:= .flat (by simp [bs,bW]);obtain⟨r1,r2⟩:=h.drew.aA8 (more:=zs) RY e h1 ((bytesRow s cc).size,(bytesRow s cc).size+1) (by intro x hx;rw [jZ]at hx;omega) [] (by simp);have fU:=run_bytes_of_string w src dst e s hs hd he;rw [hcc,aH8]at fU;rw [aH8]at r1 r2;refine⟨_,_,_,_,_,hk,fU,?_,r1,(xZ.drew U w).trans r2⟩;have hL:=Rn.mW U S.n ⟨w.drew.heap.size,0,(bs++zs).length,1⟩;have:=VR.rW (o:=0) (n:=s.size) (c:=s.size) (c':=cc) hL aDj (bO _) (by simp only [jZ];omega) Nat.one_pos;rw [mH];exact this
   ·cases hk
  ·cases hk
 ·rename_i n c
  cases hx.of_flat rfl;split at hk
  ·rename_i e hs hd
   split at hk
   ·rename_i he
    exact⟨U,_,S,_,w,hk,run_convert_bytes_nil w src e hs he _ _ dst hd,.flat rfl,h,.refl U w⟩
   ·cases hk
  ·cases hk
 ·rename_i i o sp len c
  split at hk
  ·cases hk
  ·rename_i e hs hd AW
   split at hk
   ·rename_i he
    rcases hx.mZ with ⟨L,c',hL,rfl,_⟩ | ⟨⟨s1,h1⟩,rfl,rfl,_⟩
    ·obtain⟨vs,e',ck,ho,hle,hk⟩:=GB hk
     obtain⟨l',Tg,hlen,hc⟩:=h.KM ho hL hle;obtain⟨ns,hk,hns⟩:=Ka hk;rw [hns]at Tg;have aOd:l'=ns.map (fun n=> .int .u8 (.ofNat n)):=Tg.aE3 (by simp [bW]);refine⟨U,_,S,_,w,hk,?_,.flat rfl,h,.refl U w⟩;rw [run_convert_bytes_string w src dst e _ _ _ hs he hd];have RK:=run_loadCells (P:=P) ⟨L.b,L.s+o,none⟩ l' hlen hc;rw [aOd]at RK;have e1:(⟨ns.map (fun n=>Value.int .u8 (.ofNat n))⟩:Array Value)=((ns.map Int.ofNat).map (Value.int .u8)).toArray:=by simp [List.map_map,Function.comp_def]
     rw [e1]at RK;rw [run_bytesToString w _ _ _ _ RK]
     congr 2
     have hf:∀(l:List Nat) (r:ByteArray),(l.map Int.ofNat).foldl (fun r (n:Int)=>r.push (UInt8.ofNat n.toNat)) r=⟨r.data++(l.map UInt8.ofNat).toArray⟩:=by
      intro l;induction l with
      | nil=>intro r;simp
      | cons b l ih=>intro r;simp only [Ca,Oi,ih];simp [ByteArray.push]
     rw [hf];have he0:ByteArray.empty.data= #[]:=rfl;rw [he0];simp
    ·subst h1;exact aX rfl (AW _)
   ·cases hk
  ·cases hk
 ·cases hk
end
end Go.Am
namespace Go.Am
open Go.RowKit Go.MapKept
section
variable{P:Program}{w0:World}{U:Rn}{S:St}{w:World}
theorem Rel.aLK (h:Rel P w0 U S w){i:Nat}{o o':jD} (ho:S.obj i=some o) (hd:o.BS=false) (hr:o.reads=false) (hol:o.olds=[]){L:Loc} (hL:U i=some L) (hb:w0.heap.size<=L.b)
 (aOe:o'.olds=[]) (ob:Obj) (vJ:(w.putObj L.b ob).heap[L.b]? =some ob->IV P w0 U (w.putObj L.b ob) i o'):Rel P w0 U (S.set i o') (w.putObj L.b ob)/\xZ U w U (w.putObj L.b ob):=by
 have hlt:=h.loc i L hL;have vJ:=vJ (World.putObj_heap_same hlt)
 have oX:∀j x,j≠i->S.obj j=some x->x.BS=false->∀M,U j=some M->M.b≠L.b:=by
  intro j x hji hx hxd M hM e;rcases h.sep i j o x L M (aN hji) ho hx hd hxd hL hM e.symm with ⟨h1,_⟩ | h1 | h1
  ·rw [hr]at h1;cases h1
  ·rw [hol]at h1;cases h1
  ·cases x with
   | cells vs t k=>
    cases k with
    | grown olds=>
     obtain⟨_,h2⟩:=h.old j vs t olds hx i h1;rcases h2 o ho with h3 | ⟨ws,t',h3,_⟩
     ·rw [h3]at hd;cases hd
     ·rw [h3]at hr;cases hr
    | _=>cases h1
   | _=>cases h1
 have DS:∀j x,(S.set i o').obj j=some x->(j=i/\x=o')\/(j≠i/\S.obj j=some x):=fun j x hx=>by
  rw [HE]at hx;by_cases e:j=i
  ·rw [aK e]at hx;injection hx with hx;exact .inl ⟨e,hx.symm⟩
  ·rw [aG e]at hx;exact .inr ⟨e,hx⟩
 refine h.aJ (S':=S.set i o') hb ⟨i,L,hL,rfl⟩ rfl (putObj_size _ _) (fun c hc=>yS hc) rfl rfl rfl (fun j x hx=>?_) (fun a b x y M N hab hx hy hxd hyd hM hN Tq=>?_) (fun j vs e olds hj q hq=>?_)
 ·rcases DS j x hx with ⟨rfl,rfl⟩ | ⟨e,hx⟩
  ·exact .inr (.inr ⟨h.lt j o ho,vJ⟩)
  ·cases hxd:x.BS with
   | true=>exact .inl ⟨rfl,h.lt j x hx⟩
   | false=>exact .inr (.inl ⟨hx,oX j x e hx hxd⟩)
 ·rcases DS a x hx with ⟨e1,_⟩ | ⟨ea,ZU⟩<;>rcases DS b y hy with ⟨e2,_⟩ | ⟨eb,hy1⟩
  ·exact aX (e1.trans e2.symm) hab
  ·rw [e1,hL]at hM;injection hM with hM;subst hM;exact aX Tq.symm (oX b y eb hy1 hyd N hN)
  ·rw [e2,hL]at hN;injection hN with hN;subst hN;exact aX Tq (oX a x ea ZU hxd M hM)
  ·exact h.sep a b x y M N hab ZU hy1 hxd hyd hM hN Tq
 ·rcases DS j _ hj with ⟨rfl,e2⟩ | ⟨e,hj⟩
  ·rw [<-e2]at aOe;simp only [jD.olds]at aOe;subst aOe;cases hq
  ·obtain⟨h1,h2⟩:=h.old j vs _ olds hj q hq
   refine⟨h1,fun x hx=>?_⟩;rcases DS q x hx with ⟨rfl,rfl⟩ | ⟨e',hx⟩
   ·rcases h2 o ho with h3 | ⟨ws,t',h3,_⟩
    ·rw [h3]at hd;cases hd
    ·rw [h3]at hr;cases hr
   ·exact h2 x hx
theorem KN{m:Value}{k:Option Nat->List MapEntry->Nat->Bool} (hk:Xy S m k=true):
 (m= .map none/\k none [] 0=true)\/∃r es c,m= .map (some r)/\S.obj r=some (.map es c)/\k (some r) es c=true:=by
 unfold Xy at hk;split at hk
 ·exact .inl ⟨rfl,hk⟩
 ·rename_i r
  rw [nH]at hk;cases ho:S.h.get r with
  | none=>rw [ho]at hk;cases hk
  | some o=>
   rw [ho]at hk;cases o with
   | map es c=>exact .inr ⟨r,es,c,rfl,ho,hk⟩
   | _=>cases hk
 ·cases hk
theorem VR.KE{r:Nat}{v':Value} (h:VR U (.map (some r)) v'):∃L,U r=some L/\v'= .map (some L.b):=by
 cases h with
 | flat h=>simp [bW]at h
 | map h=>exact⟨_,h,rfl⟩
theorem Rel.map (h:Rel P w0 U S w){r:Nat}{es:List MapEntry}{c:Nat} (ho:S.obj r=some (.map es c)){L:Loc} (hL:U r=some L):∃jT,w0.heap.size<=L.b/\w.heap[L.b]? =some (.map jT c)/\iA U es jT.toList:=by
 obtain⟨M,jT,h1,h2,h3,h4⟩:=h.PB r _ ho;rw [hL]at h1;injection h1 with h1;subst h1;exact⟨jT,h2,h3,h4⟩
theorem Eg{t:TypeId} (h:sU P t=true):RV P t=none:=by
 cases hs:RV P t with
 | none=>rfl
 | some fs=>obtain⟨hu,_⟩:=HR hs;unfold sU at h;rw [hu]at h;cases h
theorem Yj{t:TypeId} (h:sU P t=true){a b:Value}{k:Bool->Bool} (hk:IT P t a b k=true):xD P t a b k=true:=by
 unfold IT at hk;split at hk
 ·unfold pY at hk
  simp only [Eg h]at hk;cases hk
 ·exact hk
theorem aA9{t:TypeId}{kd:TypeDesc} (hu:P.underlying t=some kd){a b:Value}{k:Bool->Bool} (hk:xD P t a b k=true):∃e,k e=true/\Instr.sameNow kd a b=some e:=by
 unfold xD at hk;rw [hu]at hk;split at hk
 ·rename_i q hq
  injection hq with hq;subst hq;split at hk
  ·rename_i j x l y
   split at hk
   ·rename_i hj
    have:=LA hj;subst this;rw [pU,RZ]at hk;exact⟨_,hk,by simp [Instr.sameNow]⟩
   ·cases hk
  ·cases hk
 ·rename_i hq
  injection hq with hq;subst hq;split at hk
  ·rename_i x y
   rw [pU,SC]at hk
   have e:(x==y)=(x.data.toList==y.data.toList):=by
    rw [Oj,bytes_beq,beq_iff_eq];exact⟨fun h=>by rw [h],fun h=>ByteArray.ext (jF.1 h)⟩
   exact⟨_,hk,by rw [<-e];rfl⟩
  ·cases hk
 ·rename_i hq
  injection hq with hq;subst hq;split at hk
  ·rw [pU]at hk
   exact⟨_,hk,rfl⟩
  ·cases hk
 ·cases hk
def findAux (P:Program) (t:TypeId) (key:Value) (k:Option (Nat×MapEntry)->Bool) (es:List MapEntry):Nat->Bool:=
 iD (β:=Nat->Bool) (fun _=>k none) (fun e _ ih i=>IT P t key e.key fun b=>match b with | true=>k (some (i,e)) | false=>bV (Nat.succ i) ih) es
def Vn (i:Nat) (l l':List MapEntry) (r:Option (Nat×MapEntry)) (r':Option (Nat×Value)):Prop:=
 (r=none/\r'=none)\/∃j e e',r=some (i+j,e)/\l[j]? =some e/\l'[j]? =some e'/\r'=some (i+j,e'.val)
theorem iA.cons_inv{e:MapEntry}{l l':List MapEntry} (h:iA U (e::l) l'):∃e' t',l'=e'::t'/\WH U e e'/\iA U l t':=by
 cases l' with
 | nil=>have:=h.1;simp at this
 | cons e' t'=>exact⟨e',t',rfl,h.2 0 e e' rfl rfl,by simpa using h.1,fun k x y a b=>h.2 (k+1) x y (by simpa using a) (by simpa using b)⟩
theorem Vn.step{i:Nat}{e e':MapEntry}{l l':List MapEntry}{r:Option (Nat×MapEntry)}{r':Option (Nat×Value)} (h:Vn (i+1) l l' r r'):Vn i (e::l) (e'::l') r r':=by
 rcases h with h | ⟨j,x,x',h1,h2,h3,h4⟩
 ·exact .inl h
 ·exact .inr ⟨j+1,x,x',by rw [h1];congr 2;omega,by simpa using h2,by simpa using h3,by rw [h4];congr 2;omega⟩
theorem Ts{t:TypeId}{kd:TypeDesc} (hp:sU P t=true) (hu:P.underlying t=some kd){key:Value}{k:Option (Nat×MapEntry)->Bool}:∀(l l':List MapEntry) (i:Nat),findAux P t key k l i=true->iA U l l'->
 ∃r r',k r=true/\Instr.findNow kd key l' i=some r'/\Vn i l l' r r':=by
 intro l;induction l with
 | nil=>
  intro l' i hk hl;have:l'=[]:=sO (by simpa using hl.1.symm);subst this;exact⟨none,none,hk,rfl,.inl ⟨rfl,rfl⟩⟩
 | cons e l ih=>
  intro l' i hk hl;obtain⟨e',t',rfl,he,ht⟩:=hl.cons_inv;obtain⟨b,hb,hs⟩:=aA9 hu (Yj hp (show IT P t key e.key (fun b=>match b with | true=>k (some (i,e)) | false=>bV (Nat.succ i) (findAux P t key k l))=true from hk));rw [<-he.1]at hs;cases b with
  | true=>exact⟨_,_,hb,by simp only [Instr.findNow,hs];rfl,.inr ⟨0,e,e',rfl,rfl,rfl,rfl⟩⟩
  | false=>
   simp only [bH]at hb;obtain⟨r,r',h1,h2,h3⟩:=ih t' (i+1) hb ht;exact⟨r,r',h1,by simp only [Instr.findNow,hs,h2],h3.step⟩
theorem Pa{t:TypeId}{fs:List Field} (hp:RV P t=some fs){key:Value} (yA:kV key=true){xs:Array Value} (hx:key= .agg xs){k:Option (Nat×MapEntry)->Bool}:∀(l l':List MapEntry) (i:Nat),
 findAux P t key k l i=true->iA U l l'->∃r r',k r=true/\(∀w,(Instr.findAsking t key l' i).run P w= .ok r' w)/\Vn i l l' r r':=by
 intro l;induction l with
 | nil=>
  intro l' i hk hl;have:l'=[]:=sO (by simpa using hl.1.symm);subst this;exact⟨none,none,hk,fun w=>rfl,.inl ⟨rfl,rfl⟩⟩
 | cons e l ih=>
  intro l' i hk hl;obtain⟨e',t',rfl,he,ht⟩:=hl.cons_inv;have hk:IT P t key e.key (fun b=>match b with | true=>k (some (i,e)) | false=>bV (Nat.succ i) (findAux P t key k l))=true:=hk
  have hk:pY P t key e.key (fun b=>match b with | true=>k (some (i,e)) | false=>bV (Nat.succ i) (findAux P t key k l))=true:=by
   unfold IT at hk;split at hk
   ·exact hk
   ·unfold xD at hk
    rw [(HR hp).1]at hk;cases hk
  obtain⟨b,hb,hs,_⟩:=SD (U:=U) hk (VR.kV yA) (VR.kV he.2.1);rw [<-he.1]at hs;cases b with
  | true=>exact⟨_,_,hb,fun w=>by simp [Instr.findAsking,hs],.inr ⟨0,e,e',rfl,rfl,rfl,rfl⟩⟩
  | false=>
   simp only [bH]at hb;obtain⟨r,r',h1,h2,h3⟩:=ih t' (i+1) hb ht;exact⟨r,r',h1,fun w=>by simp [Instr.findAsking,hs,h2],h3.step⟩
theorem BT{t:TypeId}{key:Value} (h:TS P t key=true):kV key=true/\(sU P t=true\/sU P t=false/\∃fs cs,RV P t=some fs/\key= .agg cs/\fs.length<=cs.toList.length):=by
 unfold TS at h;split at h
 ·rename_i hf
  refine⟨hf,?_⟩;split at h
  ·exact .inl (by assumption)
  ·rename_i h1
   split at h
   ·rename_i fs cs h2
    exact .inr ⟨h1,fs,cs,h2,rfl,cG h⟩
   ·cases h
 ·cases h
theorem NJ{t:TypeId}{key:Value} (yA:TS P t key=true){l l':List MapEntry}{k:Option (Nat×MapEntry)->Bool} (hk:Jx P t key l k=true) (hl:iA U l l'):
 ∃r r',k r=true/\(∀w,(Instr.findKey t key l').run P w= .ok r' w)/\Vn 0 l l' r r':=by
 have hk:findAux P t key k l 0=true:=hk;obtain⟨hf,hp | ⟨_,fs,cs,hs,hc,_⟩⟩:=BT yA
 ·cases hu:P.underlying t with
  | none=>unfold sU at hp;rw [hu]at hp;cases hp
  | some kd=>
   obtain⟨r,r',h1,h2,h3⟩:=Ts hp hu l l' 0 hk hl;exact⟨r,r',h1,fun w=>run_findKey hu h2,h3⟩
 ·obtain⟨r,r',h1,h2,h3⟩:=Pa hs hf hc l l' 0 hk hl
  refine⟨r,r',h1,fun w=>?_,h3⟩;have hu:=(HR hs).1;cases l' with
  | nil=>
   have h2:=h2 w;simp only [Instr.findAsking,kR]at h2;injection h2 with h2;rw [<-h2];exact run_findKey hu rfl
  | cons e l'=>
   simp only [Instr.findKey,cR,run_underlying hu,eL];have:Instr.findNow (.struct (P.fieldsOf t)) key (e::l') 0=none:=by simp [Instr.findNow,Instr.sameNow]
   rw [this];exact h2 w
theorem WI{t:TypeId} (hp:sU P t=true) (em:Bool) (n:Nat) (v:Value) (w:World):(Instr.checkKey em (n+1) t v).run P w= .ok () w:=by
 unfold sU at hp;split at hp<;>first | (cases hp;done) | (rename_i hu;cases v<;>simp [Instr.checkKey,run_underlying hu])
theorem aBa (em:Bool) (n:Nat) (cs:Array Value) (w:World):∀(fs:List Field) (i:Nat),xX P i fs=true->i+fs.length<=cs.toList.length->
 (forIn fs PUnit.unit (fun f (_:PUnit)=>do
  if f.name≠ "_" then Instr.checkKey em (n+1) f.type (<-part f.type cs f.offset)
  pure (ForInStep.yield PUnit.unit):Field->PUnit->Sem (ForInStep PUnit))).run P w= .ok PUnit.unit w:=by
 intro fs;induction fs with
 | nil=>intro i _ _;rfl
 | cons f fs ih=>
  intro i hp hl;simp only [xX,dR,beq_iff_eq,bne_iff_ne]at hp;obtain⟨⟨⟨aE4,aGz⟩,xN⟩,yB⟩:=hp;simp only [oN]at hl;have hlt:i<cs.toList.length:=by omega
  have hg:cs.toList[i]? =some cs.toList[i]:=aQ hlt;simp only [List.forIn_cons,cR,aE4,ne_eq,not_false_eq_true,if_true,aGz,WJ xN hg,eL,WI xN,kR];exact ih (i+1) yB (by omega)
theorem iU{t:TypeId}{key:Value} (yA:TS P t key=true) (em:Bool) (w:World):(Instr.checkKey em 10000 t key).run P w= .ok () w:=by
 obtain⟨hf,hp | ⟨_,fs,cs,hs,rfl,hlen⟩⟩:=BT yA
 ·exact WI hp em 9999 key w
 ·obtain⟨hu,h2,h3,_,_⟩:=HR hs
  show(Instr.checkKey em (9999+1) t (.agg cs)).run P w=_;unfold Instr.checkKey;simp only [cR,run_underlying hu,eL];have:=aBa (P:=P) em 9998 cs w fs 0 h3 (by omega);rw [<-h2,Array.forIn_toList]at this;rw [this];rfl
end
section
variable{P:Program}{w0:World}{U:Rn}{S:St}{w:World}
theorem WK{n:Nat}{a b:Value} (ha:bW a=true) (hb:bW b=true) (h:Instr.sameBits n a b=true):a=b:=by
 cases a<;>first | (simp [bW]at ha;done) | skip
 all_goals (cases b<;>first | (simp [bW]at hb;done) | (simp [Instr.sameBits]at h;done) | skip)
 all_goals first
  | rfl
  | (simp [Instr.sameBits]at h;simp [h];done)
  | (rw [Instr.sameBits,bytes_beq]at h;rw [h];done)
  | (rename_i x y;cases x<;>cases y<;>first | rfl | (simp [bW]at ha;done) | (simp [bW]at hb;done))
theorem WL{n:Nat}{a b:Value} (ha:kV a=true) (hb:kV b=true) (h:Instr.sameBits (n+1) a b=true):a=b:=by
 by_cases hA:∃x,a= .agg x
 ·obtain⟨x,rfl⟩:=hA
  cases b with
  | agg y=>
   simp only [Instr.sameBits,dR,beq_iff_eq]at h;obtain⟨hs,h⟩:=h;have ha:∀v∈x.toList,bW v=true:=dL.1 ha;have hb:∀v∈y.toList,bW v=true:=dL.1 hb;have hs:x.toList.length=y.toList.length:=hs
   have h:∀(l m:List Value),l.length=m.length->(∀v∈l,bW v=true)->(∀v∈m,bW v=true)->((l.zip m).all fun(a,b)=>Instr.sameBits n a b)=true->l=m:=by
    intro l;induction l with
    | nil=>intro m hm _ _ _;exact(sO (by simpa using hm.symm)).symm
    | cons a l ih=>
     intro m hm h1 h2 h3;cases m with
     | nil=>simp at hm
     | cons b m=>
      simp only [List.zip_cons_cons,OX,dR]at h3;rw [WK (h1 a (.head _)) (h2 b (.head _)) h3.1,ih m (by simpa using hm) (fun v hv=>h1 v (.tail _ hv)) (fun v hv=>h2 v (.tail _ hv)) h3.2]
   rw [jF.1 (h _ _ hs ha hb (by assumption))]
  | _=>simp [Instr.sameBits]at h
 ·have fa:bW a=true:=by cases a<;>first | exact ha | exact aX ⟨_,rfl⟩ hA
  by_cases hB:∃x,b= .agg x
  ·obtain⟨x,rfl⟩:=hB
   cases a<;>first | (simp [Instr.sameBits]at h;done) | exact aX ⟨_,rfl⟩ hA
  ·have fb:bW b=true:=by cases b<;>first | exact hb | exact aX ⟨_,rfl⟩ hB
   exact WK fa fb h
theorem iA.aDk{l l':List MapEntry} (h:iA U l l'){i:Nat}{e e' x:MapEntry} (hi:l[i]? =some e) (Co:l'[i]? =some e') (f:MapEntry->MapEntry) (hx:WH U x (f e')):iA U (l.set i x) (l'.modify i f):=by
 refine⟨by simp [h.1],fun k a b ha hb=>?_⟩;rw [Of]at ha;rw [List.getElem?_modify]at hb;by_cases hk:i=k
 ·subst hk
  have:=(dK.1 hi).1;rw [aK rfl,aK this]at ha;rw [Co]at hb;simp at ha hb;subst ha hb;exact hx
 ·rw [aG hk]at ha
  cases hl:l'[k]? with
  | none=>rw [hl]at hb;cases hb
  | some y=>rw [hl]at hb;simp [hk]at hb;subst hb;exact h.2 k a y ha hl
theorem iA.aSa{l l':List MapEntry} (h:iA U l l'){i:Nat}{e e':MapEntry} (hi:l[i]? =some e) (Co:l'[i]? =some e') (f:MapEntry->MapEntry) (hx:WH U e (f e')):iA U l (l'.modify i f):=by
 have:=h.aDk hi Co f hx
 have e1:l.set i e=l:=by
  apply xQ;intro k;rw [Of];split
  ·rename_i hk;subst hk;split
   ·exact hi.symm
   ·rename_i hl;exact aX (dK.1 hi).1 hl
  ·rfl
 rwa [e1]at this
theorem iA.push{l l':List MapEntry} (h:iA U l l'){e e':MapEntry} (he:WH U e e'):iA U (l++[e]) (l'++[e']):=by
 refine⟨by simp [h.1],fun k a b ha hb=>?_⟩;by_cases hk:k<l.length
 ·rw [gV hk]at ha
  rw [gV (by rw [<-h.1];exact hk)]at hb;exact h.2 k a b ha hb
 ·rw [kQ (by omega)]at ha
  rw [kQ (by rw [<-h.1];omega),<-h.1]at hb
  have:k-l.length=0:=by
   have:=(dK.1 ha).1;simpa using this
  rw [this]at ha hb;simp at ha hb;subst ha hb;exact he
theorem iA.erase{l l':List MapEntry} (h:iA U l l') (i:Nat):iA U (l.eraseIdx i) (l'.eraseIdx i):=by
 refine⟨by simp [List.length_eraseIdx,h.1],fun k a b ha hb=>?_⟩;rw [List.getElem?_eraseIdx]at ha hb;split at ha
 ·rename_i hk;rw [aK hk]at hb;exact h.2 k a b ha hb
 ·rename_i hk;rw [aG hk]at hb;exact h.2 _ a b ha hb
theorem CI{t kt et:TypeId} (h:IU P t=some (kt,et)):P.underlying t=some (.map kt et):=by
 unfold IU at h;split at h
 ·rename_i hu;injection h with h;injection h with h1 h2;subst h1 h2;exact hu
 ·cases h
theorem Ih{t:TypeId}{z:Value} (h:zeroV P t=some z) (w:World):(zeroValue t).run P w= .ok z w:=by
 unfold zeroV at h;cases hi:P.info? t with
 | none=>rw [hi]at h;cases h
 | some i=>rw [hi]at h;simp [zeroValue,aH9 hi,show i.zero=some z from h]
theorem VR.key{kt:TypeId}{key Pb:Value} (h:VR U key Pb) (hk:TS P kt key=true):Pb=key:=h.aIa (BT hk).1
theorem An (h:Rel P w0 U S w){t:TypeId}{x x' ix ix':Value}{ok:Bool}{K:VK} (hk:YV P t x ix ok S K=true) (hx:VR U x x') (hi:VR U ix ix'):
 ∃v v',K v S=true/\VR U v v'/\(Instr.lookup t x' ix' ok).run P w= .ok v' w:=by
 unfold YV at hk;split at hk
 ·rename_i kt et hm
  have hu:=CI hm;split at hk
  ·rename_i zero yA hz
   rw [hi.key yA]
   have main:∀(es:List MapEntry) (jT:Array MapEntry),iA U es jT.toList->Jx P kt ix es (fun r=>match r with
    | some (_,e)=>match(generalizing:=false) ok with | true=>K (.tuple ⟨[e.val,.bool true]⟩) S | false=>K e.val S
    | none=>match kV zero with
     | true=>match(generalizing:=false) ok with | true=>K (.tuple ⟨[zero,.bool false]⟩) S | false=>K zero S
     | false=>false)=true->
    ∃v v',K v S=true/\VR U v v'/\(do
     Instr.checkKey jT.isEmpty 10000 kt ix
     let(v,o)<-match<-Instr.findKey kt ix jT.toList with
      | some (_,v)=>pure (v,true)
      | none=>pure (<-zeroValue et,false)
     pure (if ok then .tuple #[v,.bool o]else v):Sem Value).run P w= .ok v' w:=by
    intro es jT YX hk;obtain⟨r,r',hk,fU,hr⟩:=NJ yA hk YX;rcases hr with ⟨rfl,rfl⟩ | ⟨j,e,e',rfl,h1,h2,rfl⟩
    ·simp only at hk
     split at hk
     ·rename_i hfz
      have Vm:VR U zero zero:=VR.kV hfz;cases ok with
      | true=>exact⟨_,_,hk,.pZ (.cons Vm (.cons (.flat rfl) (.nil U))),by simp [iU yA,fU,Ih hz]⟩
      | false=>exact⟨_,_,hk,Vm,by simp [iU yA,fU,Ih hz]⟩
     ·cases hk
    ·have hv:=(YX.2 j e e' h1 h2).2.2.2
     cases ok with
     | true=>exact⟨_,_,hk,.pZ (.cons hv (.cons (.flat rfl) (.nil U))),by simp [iU yA,fU]⟩
     | false=>exact⟨_,_,hk,hv,by simp [iU yA,fU]⟩
   rcases KN hk with ⟨rfl,vZ⟩ | ⟨r,es,c,rfl,ho,vZ⟩
   ·cases hx.of_flat rfl
    obtain⟨v,v',h1,h2,h3⟩:=main [] #[] ⟨rfl,by simp⟩ vZ;refine⟨v,v',h1,h2,?_⟩;rw [<-h3];simp [Instr.lookup,run_underlying hu];rfl
   ·obtain⟨L,hL,rfl⟩:=hx.KE
    obtain⟨jT,_,hb,YX⟩:=h.map ho hL;obtain⟨v,v',h1,h2,h3⟩:=main es jT YX vZ;refine⟨v,v',h1,h2,?_⟩;rw [<-h3];simp [Instr.lookup,run_underlying hu,MapKept.run_getObj_map hb];rfl
  ·cases hk
 ·cases hk
theorem Rel.Cp (h:Rel P w0 U S w){r:Nat}{es:List MapEntry}{c:Nat} (ho:S.obj r=some (.map es c)){L:Loc} (hL:U r=some L){o:Obj} (hb:w.heap[L.b]? =some o) (CJ:w0.heap.size<=L.b){es2:List MapEntry}{Pc:Array MapEntry}{c2:Nat} (he:iA U es2 Pc.toList)
 (hob:∃jT c',o= .map jT c'):∃w',(setObj L.b (.map Pc c2)).run P w= .ok () w'/\Rel P w0 U (S.set r (.map es2 c2)) w'/\xZ U w U w':=by
 obtain⟨jT,c',rfl⟩:=hob;obtain⟨r1,r2⟩:=h.aLK (o':= .map es2 c2) ho rfl rfl rfl hL CJ rfl (.map Pc c2) (fun hh=>⟨L,Pc,hL,CJ,hh,he⟩);exact⟨_,MapKept.run_setObj_map _ hb,r1,r2⟩
theorem Vo{a b:Value} (h:Instr.sameBits 10000 a b=true) (w:World):(Instr.keyThatStays a b).run P w= .ok b w:=by simp [Instr.keyThatStays,h]
theorem QA (h:Rel P w0 U S w){t:TypeId}{m m' key Pb x x':Value}{k:St->Bool} (hk:FZ P t m key x S k=true) (hm:VR U m m') (aBb:VR U key Pb) (hx:VR U x x'):
 ∃S' w',k S'=true/\Rel P w0 U S' w'/\xZ U w U w'/\(Instr.mapUpdate t m' Pb x').run P w= .ok () w':=by
 unfold FZ at hk;split at hk
 ·rename_i kt et hmt
  have hu:=CI hmt;split at hk
  ·rename_i yA
   rw [aBb.key yA];rcases KN hk with ⟨rfl,vZ⟩ | ⟨r,es,c,rfl,ho,vZ⟩
   ·cases vZ
   ·obtain⟨L,hL,rfl⟩:=hm.KE
    obtain⟨jT,CJ,hb,YX⟩:=h.map ho hL;have hk:=vZ;simp only at hk;obtain⟨q,q',hk,fU,hr⟩:=NJ yA hk YX;rcases hr with ⟨rfl,rfl⟩ | ⟨j,e,e',rfl,h1,h2,rfl⟩
    ·simp only [nI,bH,iB]at hk
     obtain⟨w',hw,r1,r2⟩:=h.Cp (P:=P) ho hL hb CJ (es2:=es++[{key:=key,val:=x,born:=c}]) (Pc:=jT.push {key:=key,val:=x',born:=c}) (c2:=c+1)
      (by rw [Array.toList_push];exact YX.push ⟨rfl,(BT yA).1,rfl,hx⟩) ⟨_,_,rfl⟩
     exact⟨_,w',hk,r1,r2,by simp [Instr.mapUpdate,run_underlying hu,MapKept.run_getObj_map hb,iU yA,fU,hw]⟩
    ·simp only [dX]at hk
     split at hk
     ·rename_i hsb
      rw [Pd,iB]at hk;have hrel:=YX.2 j e e' h1 h2;have hee:e.key=key:=WL hrel.2.1 (BT yA).1 hsb
      obtain⟨w',hw,r1,r2⟩:=h.Cp (P:=P) ho hL hb CJ (es2:=es.set j {e with val:=x}) (Pc:=jT.modify j fun e=>{e with key:=key,val:=x'}) (c2:=c)
       (by rw [aDc];exact YX.aDk h1 h2 _ ⟨hee.symm,hrel.2.1,hrel.2.2.1,hx⟩) ⟨_,_,rfl⟩
      refine⟨_,w',hk,r1,r2,?_⟩;have h2':jT[j]? =some e':=by simpa using h2
      have:Instr.sameBits 10000 e'.key key=true:=by rw [hrel.1];exact hsb
      simp [Instr.mapUpdate,run_underlying hu,MapKept.run_getObj_map hb,iU yA,fU,h2',Vo this,hw]
     ·cases hk
  ·cases hk
 ·cases hk
theorem Rel.same (h:Rel P w0 U S w){O:St} (ho:∀j,S.obj j=O.obj j) (hn:S.n=O.n):Rel P w0 U O w:=
 ⟨h.Pe,fun i o hi=>h.PB i o ((ho i).trans hi),fun i hi=>h.dom i (by omega),fun i o hi=>by rw [<-hn];exact h.lt i o ((ho i).trans hi),h.loc,
  fun i j a b L M Tt ha hb=>h.sep i j a b L M Tt ((ho i).trans ha) ((ho j).trans hb),
  fun j vs e olds hj i hi=>by rw [<-hn];obtain⟨h1,h2⟩:=h.old j vs e olds ((ho j).trans hj) i hi;exact⟨h1,fun o hx=>h2 o ((ho i).trans hx)⟩,h.base⟩
theorem Lp (h:Rel P w0 U S w){t:TypeId}{m m' key Pb:Value}{K:VK} (hk:Ic P t m key S K=true) (hm:VR U m m') (aBb:VR U key Pb):
 ∃v S' v' w',K v S'=true/\VR U v v'/\Rel P w0 U S' w'/\xZ U w U w'/\(Instr.mapEntry t m' Pb).run P w= .ok v' w':=by
 unfold Ic at hk;split at hk
 ·rename_i kt et hmt
  have hu:=CI hmt;split at hk
  ·rename_i zero yA hz
   rw [aBb.key yA];rcases KN hk with ⟨rfl,vZ⟩ | ⟨r,es,c,rfl,ho,vZ⟩
   ·cases vZ
   ·obtain⟨L,hL,rfl⟩:=hm.KE
    obtain⟨jT,CJ,hb,YX⟩:=h.map ho hL;have hk:=vZ;simp only at hk;obtain⟨q,q',hk,fU,hr⟩:=NJ yA hk YX;rcases hr with ⟨rfl,rfl⟩ | ⟨j,e,e',rfl,h1,h2,rfl⟩
    ·simp only at hk
     split at hk
     ·rename_i hfz
      simp only [nI,bH,iB]at hk
      obtain⟨w',hw,r1,r2⟩:=h.Cp (P:=P) ho hL hb CJ (es2:=es++[{key:=key,val:=zero,born:=c}]) (Pc:=jT.push {key:=key,val:=zero,born:=c}) (c2:=c+1)
       (by rw [Array.toList_push];exact YX.push ⟨rfl,(BT yA).1,rfl,VR.kV hfz⟩) ⟨_,_,rfl⟩
      exact⟨_,_,_,w',hk,.pZ (.cons (VR.kV hfz) (.cons (.flat rfl) (.nil U))),r1,r2,by simp [Instr.mapEntry,run_underlying hu,MapKept.run_getObj_map hb,iU yA,fU,Ih hz,hw];rfl⟩
     ·cases hk
    ·dsimp only at hk
     split at hk
     ·rename_i hsb
      have hrel:=YX.2 j e e' h1 h2;have hee:e.key=key:=WL hrel.2.1 (BT yA).1 hsb
      obtain⟨w',hw,r1,r2⟩:=h.Cp (P:=P) ho hL hb CJ (es2:=es) (Pc:=jT.modify j fun e=>{e with key:=key}) (c2:=c)
       (by rw [aDc];exact YX.aSa h1 h2 _ ⟨hee.symm,hrel.2.1,hrel.2.2.1,hrel.2.2.2⟩) ⟨_,_,rfl⟩
      have aLL:S.set r (.map es c)=S.set r (.map es c):=rfl;refine⟨_,S,_,w',hk,.pZ (.cons hrel.2.2.2 (.cons (.flat rfl) (.nil U))),?_,r2,?_⟩
      ·exact r1.same (fun j=>by
        rw [HE];split
        ·rename_i e;subst e;exact ho.symm
        ·rfl) rfl
      ·have h2':jT[j]? =some e':=by simpa using h2
       have:Instr.sameBits 10000 e'.key key=true:=by rw [hrel.1];exact hsb
       simp [Instr.mapEntry,run_underlying hu,MapKept.run_getObj_map hb,iU yA,fU,h2',Vo this,hw,goInt,hrel.2.2.1]
     ·cases hk
  ·cases hk
 ·cases hk
end
section
variable{P:Program}{w0:World}{U:Rn}{S:St}{w:World}
def NM (n:Nat) (k:Nat->MapEntry->Bool) (es:List MapEntry):Nat->Bool:=
 iD (β:=Nat->Bool) (fun _=>false) (fun e _ ih i=>match Nat.beq e.born n with | true=>k i e | false=>bV (Nat.succ i) ih) es
theorem Ao{n:Nat}{k:Nat->MapEntry->Bool}:∀(l l':List MapEntry) (i:Nat),NM n k l i=true->iA U l l'->
 ∃j e e',k (i+j) e=true/\l[j]? =some e/\l'[j]? =some e'/\l'.findIdx? (fun e=>(e.born:Int)==(n:Int))=some j:=by
 intro l;induction l with
 | nil=>intro l' i hk _;cases hk
 | cons e l ih=>
  intro l' i hk hl;obtain⟨e',t',rfl,he,ht⟩:=hl.cons_inv;have hk:(match(generalizing:=false) Nat.beq e.born n with | true=>k i e | false=>bV (Nat.succ i) (NM n k l))=true:=hk;split at hk
  ·rename_i hb
   have hb:=dI hb;exact⟨0,e,e',hk,rfl,rfl,by simp [List.findIdx?_cons,he.2.2.1,hb]⟩
  ·rename_i hb
   have hb:=VT hb;rw [bH]at hk;obtain⟨j,x,x',h1,h2,h3,h4⟩:=ih t' (i+1) hk ht;refine⟨j+1,x,x',by rw [<-h1];congr 1;omega,by simpa using h2,by simpa using h3,?_⟩;have:((e'.born:Int)==(n:Int))=false:=by rw [he.2.2.1,beq_eq_false_iff_ne];omega
   simp [List.findIdx?_cons,this,h4]
theorem Eh (h:Rel P w0 U S w){t:TypeId}{m m' s s' x x':Value}{k:St->Bool} (hk:WF m s x S k=true) (hm:VR U m m') (hs:VR U s s') (hx:VR U x x'):
 ∃S' w',k S'=true/\Rel P w0 U S' w'/\xZ U w U w'/\(Instr.entryStore t m' s' x').run P w= .ok () w':=by
 unfold WF at hk;split at hk
 ·rename_i kd n
  cases hs.of_flat rfl;rcases KN hk with ⟨rfl,vZ⟩ | ⟨r,es,c,rfl,ho,vZ⟩
  ·cases vZ
  ·obtain⟨L,hL,rfl⟩:=hm.KE
   obtain⟨jT,CJ,hb,YX⟩:=h.map ho hL;have hk:=vZ;simp only at hk;obtain⟨j,e,e',hk,h1,h2,h3⟩:=Ao es jT.toList 0 hk YX;rw [Pd,iB,dX]at hk;have hrel:=YX.2 j e e' h1 h2
   obtain⟨w',hw,r1,r2⟩:=h.Cp (P:=P) ho hL hb CJ (es2:=es.set j {e with val:=x}) (Pc:=jT.modify j fun e=>{e with val:=x'}) (c2:=c)
    (by rw [aDc];exact YX.aDk h1 h2 _ ⟨hrel.1,hrel.2.1,hrel.2.2.1,hx⟩) ⟨_,_,rfl⟩
   refine⟨_,w',hk,r1,r2,?_⟩;have h3':jT.findIdx? (fun e=>(e.born:Int)==(n:Int))=some j:=by rw [<-h3,<-List.findIdx?_toArray,aDb]
   have hai:(asInt (.int kd (Int.ofNat n))).run P w= .ok (n:Int) w:=by simp [asInt,asIntOf]
   simp only [Instr.entryStore,cR,MapKept.run_getObj_map hb,eL,hai,h3',hw]
 ·cases hk
theorem Tv (h:Rel P w0 U S w){ts:Array TypeId}{t:TypeId}{m m' key Pb:Value}{k:St->Bool} (hk:Xz P ts.toList m key S k=true) (hm:VR U m m') (aBb:VR U key Pb):
 ∃S' w',k S'=true/\Rel P w0 U S' w'/\xZ U w U w'/\(Builtin.delete_ ts t #[m',Pb]).run P w= .ok (.tuple #[]) w':=by
 unfold Xz at hk;split at hk
 ·rename_i t0 ts' Pf
  have h0:ts[0]? =some t0:=by have:=kB (·[0]?) Pf;simpa using this
  split at hk
  ·rename_i kt et hmt
   have hu:=CI hmt;split at hk
   ·rename_i yA
    rw [aBb.key yA];rcases KN hk with ⟨rfl,vZ⟩ | ⟨r,es,c,rfl,ho,vZ⟩
    ·cases hm.of_flat rfl
     exact⟨S,w,vZ,h,.refl U w,by simp [Builtin.delete_,h0,run_underlying hu,iU yA]⟩
    ·obtain⟨L,hL,rfl⟩:=hm.KE
     obtain⟨jT,CJ,hb,YX⟩:=h.map ho hL;have hk:=vZ;simp only at hk;obtain⟨q,q',hk,fU,hr⟩:=NJ yA hk YX;rcases hr with ⟨rfl,rfl⟩ | ⟨j,e,e',rfl,h1,h2,rfl⟩
     ·simp only at hk
      obtain⟨w',hw,r1,r2⟩:=h.Cp (P:=P) ho hL hb CJ (es2:=es) (Pc:=jT) (c2:=c) YX ⟨_,_,rfl⟩;refine⟨S,w',hk,?_,r2,by simp [Builtin.delete_,h0,run_underlying hu,MapKept.run_getObj_map hb,iU yA,fU,hw]⟩
      exact r1.same (fun j=>by
       rw [HE];split
       ·rename_i e;subst e;exact ho.symm
       ·rfl) rfl
     ·simp only [dX,aGA,iB]at hk
      obtain⟨w',hw,r1,r2⟩:=h.Cp (P:=P) ho hL hb CJ (es2:=es.eraseIdx j) (Pc:=jT.eraseIdxIfInBounds j) (c2:=c)
       (by
        have:(jT.eraseIdxIfInBounds j).toList=jT.toList.eraseIdx j:=by
         have hlt:j<jT.size:=by have:=(dK.1 h2).1;simpa using this
         simp [Array.eraseIdxIfInBounds,hlt]
        rw [this];exact YX.erase j) ⟨_,_,rfl⟩
      exact⟨_,w',hk,r1,r2,by simp [Builtin.delete_,h0,run_underlying hu,MapKept.run_getObj_map hb,iU yA,fU,hw]⟩
   ·cases hk
  ·cases hk
 ·cases hk
theorem WM (h:Rel P w0 U S w){t:TypeId}{K:VK} (hk:zT S (.map [] 0) (fun i S=>K (.map (some i)) S)=true):
 ∃U' v S' v' w',K v S'=true/\(Instr.makeMap t none).run P w= .ok v' w'/\VR U' v v'/\Rel P w0 U' S' w'/\xZ U w U' w':=by
 rw [jH]at hk;obtain⟨r1,r2⟩:=h.new (.map [] 0) (.map #[] 0) ⟨w.heap.size,0,0,0⟩ rfl (fun U' _ hUz=>⟨_,#[],hUz,h.base.size,by show(w.heap.push _)[w.heap.size]? =_;simp,rfl,by simp⟩) (by simp [jD.olds]);exact⟨_,_,_,_,_,hk,by simp [Instr.makeMap,newObj];rfl,.map (Rn.mW U S.n _),r1,r2⟩
theorem Pg (h:Rel P w0 U S w){t:TypeId}{r r':Value}{K:VK} (hr:VR U r r')
 (hk:(match(generalizing:=false) r,IU P t with | .int _ _,some _=>zT S (.map [] 0) (fun i S=>K (.map (some i)) S) | _,_=>false)=true):
 ∃U' v S' v' w',K v S'=true/\(Instr.makeMap t (some r')).run P w= .ok v' w'/\VR U' v v'/\Rel P w0 U' S' w'/\xZ U w U' w':=by
 split at hk
 ·rename_i hm
  have hu:=CI hm;cases hr.of_flat rfl;obtain⟨U',v,S',v',w',h1,h2,h3⟩:=WM (t:=t) h hk;refine⟨U',v,S',v',w',h1,?_,h3⟩;simp [Instr.makeMap,run_underlying hu,asInt,asIntOf]at h2 ⊢;exact h2
 ·cases hk
theorem aLM (n:Nat) (l:List Nat):aLI n l=l.contains n:=by
 induction l with
 | nil=>rfl
 | cons m l ih=>
  show gE (Nat.beq m n) true (aLI n l)=_;rw [ih,List.contains_cons];cases hb:Nat.beq m n with
  | true=>have:=dI hb;subst this;simp [gE]
  | false=>have:=VT hb;have h2:(n==m)=false:=by simpa using aN this
           rw [h2];rfl
theorem aBc (seen:List Nat) (k:List MapEntry->Bool) (es:List MapEntry):aA5 seen es k=k (es.filter fun e=> !seen.contains e.born):=by
 induction es generalizing k with
 | nil=>rfl
 | cons e es ih=>
  show gE (aLI e.born seen) (aA5 seen es k) (aA5 seen es fun t=>k (e::t))=_;rw [aLM,ih,ih,List.filter_cons];cases hb:seen.contains e.born<;>rfl
theorem iA.aQl{l l':List MapEntry} (h:iA U l l'){e':MapEntry} (he:e'∈l'):∃e,e∈l/\WH U e e':=by
 obtain⟨k,hk,rfl⟩:=Bv he;have hl:k<l.length:=by rw [h.1];exact hk
 exact⟨l[k],cJ hl,h.2 k _ _ (aQ hl) (aQ hk)⟩
theorem iA.mem{l l':List MapEntry} (h:iA U l l'){e:MapEntry} (he:e∈l):∃e',e'∈l'/\WH U e e':=by
 obtain⟨k,hk,rfl⟩:=Bv he;have hl:k<l'.length:=by rw [<-h.1];exact hk
 exact⟨l'[k],cJ hl,h.2 k _ _ (aQ hk) (aQ hl)⟩
theorem Tw (h:Rel P w0 U S w){t:TypeId}{x x':Value}{K:VK} (hk:Dz P t x S K=true) (hx:VR U x x'):
 ∃U' v S' v' w',K v S'=true/\(Instr.range t x').run P w= .ok v' w'/\VR U' v v'/\Rel P w0 U' S' w'/\xZ U w U' w':=by
 unfold Dz at hk;split at hk
 ·rename_i kt et hm
  have hu:=CI hm;split at hk
  ·cases hx.of_flat rfl
   rw [jH]at hk;obtain⟨r1,r2⟩:=h.new (.iter none 0 [] 0) (.mapIter none 0 #[] 0) ⟨w.heap.size,0,0,0⟩ rfl (fun U' _ hUz=>⟨_,0,#[],0,⟨hUz,rfl⟩,h.base.size,by show(w.heap.push _)[w.heap.size]? =_;simp⟩) (by simp [jD.olds]);exact⟨_,_,_,_,_,hk,run_range_nilMap w t _ _ hu,.ptr (Rn.mW U S.n _),r1,r2⟩
  ·rename_i r
   obtain⟨L,hL,rfl⟩:=hx.KE;rw [nH]at hk;cases ho:S.h.get r with
   | none=>rw [ho]at hk;cases hk
   | some o=>
    rw [ho]at hk;cases o with
    | map es c=>
     obtain⟨jT,CJ,hb,YX⟩:=h.map ho hL;have hk:zT S (.iter (some r) c [] c) (fun i S=>K (.pointer (some ⟨i,0,none⟩)) S)=true:=hk;rw [jH]at hk
     obtain⟨r1,r2⟩:=h.new (.iter (some r) c [] c) (.mapIter (some L.b) c #[] c) ⟨w.heap.size,0,0,0⟩ rfl
      (fun U' he hUz=>⟨_,L,⟨hUz,rfl⟩,h.base.size,he _ _ hL,by show(w.heap.push _)[w.heap.size]? =_;simp⟩) (by simp [jD.olds])
     exact⟨_,_,_,_,_,hk,run_range_map w t _ _ L.b jT c hu hb,.ptr (Rn.mW U S.n _),r1,r2⟩
    | _=>cases hk
  ·cases hk
 ·cases hk
theorem aBd (h:Rel P w0 U S w){ty:TypeId}{x x':Value}{K:VK} (hk:aE0 x S K=true) (hx:VR U x x'):
 ∃v S' v' w',K v S'=true/\(Instr.next x' false ty).run P w= .ok v' w'/\VR U v v'/\Rel P w0 U S' w'/\xZ U w U w':=by
 unfold aE0 at hk;split at hk
 ·rename_i i
  obtain⟨_,L,hL,rfl⟩:=hx.KC;rw [nH]at hk;cases ho:S.h.get i with
  | none=>rw [ho]at hk;cases hk
  | some o=>
   rw [ho]at hk;cases o with
   | iter m since seen last=>
    cases m with
    | none=>
     have hk:K (.tuple ⟨[.bool false]⟩) S=true:=hk;obtain⟨L',a,b,c,⟨h1,hs⟩,h2,h3⟩:=h.PB i _ ho;rw [hL]at h1;injection h1 with h1;subst h1;refine⟨_,S,_,w,hk,?_,.pZ (.cons (.flat rfl) (.nil U)),h,.refl U w⟩;rw [hs];simp only [Instr.next,getObj,cR,Sem.run,h3,Result.andThen];rfl
    | some r=>
     obtain⟨L',M,⟨h1,hs⟩,h2,h3,h4⟩:=h.PB i _ ho;rw [hL]at h1;injection h1 with h1;subst h1;rw [hs]
     have hk:rV S.h r (fun o=>match o with
      | .map es c=>match xU (fun e=>Nat.blt e.born since) es,Nat.ble since last with
       | true,true=>aA5 seen es fun l=>match l with
        | []=>K (.tuple ⟨[.bool false]⟩) S
        | e::t=>xU (fun e=>FV seen [e.born] fun seen=>tK S i (.iter (some r) since seen c) fun S=>K (.tuple ⟨[.bool true,e.key,e.val]⟩) S) (e::t)
       | _,_=>false
      | _=>false)=true:=hk
     rw [nH]at hk;cases BU:S.h.get r with
     | none=>rw [BU]at hk;cases hk
     | some o2=>
      rw [BU]at hk;cases o2 with
      | map es c=>
       obtain⟨jT,CJ,hb,YX⟩:=h.map BU h3;dsimp only at hk;split at hk
       ·rename_i hold hsc
        rw [nG]at hold;have hsc:=cG hsc
        have aQm:∀x∈jT.toList,x.born<since:=by
         intro x hx;obtain⟨e,he,hr⟩:=YX.aQl hx;have:=dL.1 hold e he;rw [hr.2.2.1];exact cG this
        rw [aBc]at hk
        have aQn:∀e'∈(leftOf jT ⟨seen⟩).toList,∃e,e∈es.filter (fun e=> !seen.contains e.born)/\WH U e e':=by
         intro e' he';unfold leftOf at he';rw [Array.toList_filter]at he';obtain⟨h5,h6⟩:=kA.1 he';obtain⟨e,he,hr⟩:=YX.aQl h5;refine⟨e,kA.2 ⟨he,?_⟩,hr⟩;rw [hr.2.2.1]at h6;simpa using h6
        rcases run_next_at (P:=P) w ty L.b M.b since last ⟨seen⟩ jT c h4 hb aQm hsc with ⟨h0,fU⟩ | ⟨e',he',w1,hw1,fU⟩
        ·have Tx:es.filter (fun e=> !seen.contains e.born)=[]:=by
          cases hf:es.filter (fun e=> !seen.contains e.born)with
          | nil=>rfl
          | cons e t=>
           exfalso;have hm:e∈es.filter (fun e=> !seen.contains e.born):=by rw [hf];exact .head _
           obtain⟨h5,h6⟩:=kA.1 hm;obtain⟨e',he',hr⟩:=YX.mem h5
           have:e'∈(leftOf jT ⟨seen⟩).toList:=by
            unfold leftOf;rw [Array.toList_filter];refine kA.2 ⟨he',?_⟩;rw [hr.2.2.1];simpa using h6
           have hz:(leftOf jT ⟨seen⟩).toList=[]:=sO (by simpa using h0);rw [hz]at this;cases this
         rw [Tx]at hk;exact⟨_,S,_,w,hk,fU,.pZ (.cons (.flat rfl) (.nil U)),h,.refl U w⟩
        ·obtain⟨e,he,hr⟩:=aQn e' he'
         have rY:(es.filter (fun e=> !seen.contains e.born)).all (fun e=>FV seen [e.born] fun seen=>tK S i (.iter (some r) since seen c) fun S=>K (.tuple ⟨[.bool true,e.key,e.val]⟩) S)=true:=by
          cases hf:es.filter (fun e=> !seen.contains e.born)with
          | nil=>rfl
          | cons x t=>rw [hf]at hk;simp only [nG]at hk;exact hk
         have hk:=dL.1 rY e he;rw [nI,iB]at hk
         have aQo:Rel P w0 U S w1/\xZ U w U w1/\w1.heap=w.heap:=by
          rcases hw1 with rfl | rfl
          ·exact⟨h,.refl _ _,rfl⟩
          ·exact⟨h.drew,.drew _ _,rfl⟩
         obtain⟨hr1,xO,hh1⟩:=aQo
         obtain⟨r1,r2⟩:=hr1.aLK (o':= .iter (some r) since (seen++[e.born]) c) ho rfl rfl rfl hL h2 rfl (.mapIter (some M.b) since ((⟨seen⟩:Array Nat).push e'.born) c)
          (fun Yd=>⟨L,M,⟨hL,hs⟩,h2,h3,by rw [Yd,hr.2.2.1];simp⟩)
         exact⟨_,_,_,_,hk,fU,.pZ (.cons (.flat rfl) (.cons (by rw [hr.1];exact .kV hr.2.1) (.cons hr.2.2.2 (.nil U)))),r1,xO.trans r2⟩
       ·cases hk
      | _=>cases hk
   | _=>cases hk
 ·cases hk
theorem aDl{l:List Nat}{k:Nat->Bool} (hk:aA6 l k=true):∃b,l.getLast?=some b/\k b=true:=by
 induction l with
 | nil=>cases hk
 | cons n t ih=>
  cases t with
  | nil=>exact⟨n,rfl,hk⟩
  | cons m t=>
   obtain⟨b,h1,h2⟩:=ih hk;exact⟨b,by rw [List.getLast?_cons_cons];exact h1,h2⟩
theorem Yk (h:Rel P w0 U S w){x x':Value}{K:VK} (hk:Ya x S K=true) (hx:VR U x x'):
 ∃v v',K v S=true/\VR U v v'/\(Instr.entry x').run P w= .ok v' w:=by
 unfold Ya at hk;split at hk
 ·rename_i i
  obtain⟨_,L,hL,rfl⟩:=hx.KC;rw [nH]at hk;cases ho:S.h.get i with
  | none=>rw [ho]at hk;cases hk
  | some o=>
   rw [ho]at hk;cases o with
   | iter m since seen last=>
    cases m with
    | none=>cases hk
    | some r=>
     obtain⟨L',M,⟨h1,hs⟩,h2,h3,h4⟩:=h.PB i _ ho;rw [hL]at h1;injection h1 with h1;subst h1;rw [hs]
     replace hk:rV S.h r (fun o=>match o with
      | .map es c=>match Nat.beq c last with
       | true=>aA6 seen fun b=>Vk b es fun _ e=>K (.tuple ⟨[e.key,e.val]⟩) S
       | false=>false
      | _=>false)=true:=hk
     rw [nH]at hk;cases BU:S.h.get r with
     | none=>rw [BU]at hk;cases hk
     | some o2=>
      rw [BU]at hk;cases o2 with
      | map es c=>
       obtain⟨jT,CJ,hb,YX⟩:=h.map BU h3;dsimp only at hk;split at hk
       ·rename_i Du
        obtain rfl:=dI Du;obtain⟨b,aNC,hk⟩:=aDl hk;have hk:NM b (fun _ e=>K (.tuple ⟨[e.key,e.val]⟩) S) es 0=true:=hk;obtain⟨j,e,e',hk,he,he',hf⟩:=Ao es jT.toList 0 hk YX;have hr:=YX.2 j e e' he he';refine⟨_,_,hk,.pZ (.cons (.kV hr.2.1) (.cons hr.2.2.2 (.nil U))),?_⟩;have aQp:(⟨seen⟩:Array Nat).back?=some b:=by simpa using aNC
        have aIb:jT.find? (·.born==b)=some e':=by
         rw [<-Array.find?_toList]
         have hf2:jT.toList.findIdx? (fun e=>e.born==b)=some j:=by
          rw [<-hf];congr 1;funext x;rw [Oj,beq_iff_eq,beq_iff_eq];omega
         obtain⟨hlt,hp,aSb⟩:=List.findIdx?_eq_some_iff_getElem.1 hf2;rw [List.find?_eq_some_iff_getElem]
         have hgj:jT.toList[j]=e':=by
          have:=aQ hlt;rw [this]at he';injection he'
         exact⟨by rw [<-hgj];exact hp,j,hlt,hgj,fun k hk=>by simpa using aSb k hk⟩
        simp only [Instr.entry,getObj,cR,Sem.run,h4,hb,Result.andThen,aQp,bne_self_eq_false,Hv,if_false,aIb];rw [hr.1];rfl
       ·cases hk
      | _=>cases hk
   | _=>cases hk
 ·cases hk
theorem WN{t as xT:TypeId}{v:Value}{d:TypeDesc}{ok:Bool} (hd:P.underlying as=some d) (hi:∀ms,d≠ .interface ms) (ht:t=as):
 (Instr.typeAssert (.iface t v) xT as ok).run P w= .ok (if ok then .tuple #[v,.bool true]else v) w:=by
 subst ht;simp only [Instr.typeAssert,cR,run_underlying hd,eL];cases d<;>first | exact aX rfl (hi _) | (cases ok<;>simp)
end
section
variable{P:Program}{w0:World}{U:Rn}{S:St}{w:World}
theorem Ei (h:Rel P w0 U S w){size n:Nat}{x x':Value}{k:List Value->Bool} (hk:OZ S size n x k=true) (hx:VR U x x'):
 ∃cs cs',k cs=true/\lZ U cs cs'/\cs'.length=n*size/\(Builtin.firstCells size n x').run P w= .ok ⟨cs'⟩ w/\(Builtin.firstCells size n x').run P w.drew= .ok ⟨cs'⟩ w.drew:=by
 unfold OZ at hk;split at hk
 ·cases hx.of_flat rfl
  split at hk
  ·exact⟨_,[],hk,.nil U,by simp,rfl,rfl⟩
  ·cases hk
 ·rename_i i o sp len c
  split at hk
  ·rcases hx.mZ with ⟨L,c',hL,rfl,_⟩ | ⟨⟨s1,h1⟩,rfl,rfl,a,c',rfl⟩
   ·exact⟨_,[],hk,.nil U,by simp,by simp [Builtin.firstCells,loadCells,loadCellsFrom],by simp [Builtin.firstCells,loadCells,loadCellsFrom]⟩
   ·exact⟨_,[],hk,.nil U,by simp,by simp [Builtin.firstCells,loadCells,loadCellsFrom],by simp [Builtin.firstCells,loadCells,loadCellsFrom]⟩
  ·rename_i n
   split at hk
   ·cases hk
   ·rename_i AW
    rcases hx.mZ with ⟨L,c',hL,rfl,_⟩ | ⟨⟨s1,h1⟩,rfl,rfl,a,c',rfl⟩
    ·obtain⟨vs,e',ck,ho,hle,hk⟩:=GB hk
     obtain⟨l',Tg,hlen,hc⟩:=h.KM ho hL hle;exact⟨_,l',hk,Tg,hlen,run_loadCells (P:=P) _ l' hlen hc,run_loadCells (P:=P) (w:=w.drew) _ l' hlen hc⟩
    ·exact aX h1 (AW s1)
 ·rename_i s
  cases hx.of_flat rfl;split at hk
  ·rw [HQ]at hk
   split at hk
   ·rename_i hle
    rw [Yi]at hk
    have hd:((s.extract 0 n).data.map fun b=>Value.int .u8 (b.toNat:Int))=⟨(s.data.toList.take n).map fun b=>Value.int .u8 (b.toNat:Int)⟩:=by
     apply jF.1;simp
    refine⟨_,_,hk,.flat (by intro v hv;obtain⟨b,_,rfl⟩:=kS.1 hv;rfl),by simp at hle ⊢;omega,?_,?_⟩
    ·simp only [Builtin.firstCells,kR];rw [hd]
    ·simp only [Builtin.firstCells,kR];rw [hd]
   ·cases hk
  ·cases hk
 ·cases hk
theorem Kb{x x':Value}{k:Nat->Bool} (hk:TT x k=true) (hx:VR U x x'):∃n,k n=true/\(∀w,(Builtin.lenOf x').run P w= .ok n w)/\∀size w,(Builtin.firstCells size 0 x').run P w= .ok #[] w:=by
 unfold TT at hk;split at hk
 ·rename_i n c
  have f0:∀(a:Addr) (n c size:Nat) (w:World),(Builtin.firstCells size 0 (.slice (some a) n c)).run P w= .ok #[] w:=fun a n c size w=>by simp [Builtin.firstCells,loadCells,loadCellsFrom]
  cases hx with
  | flat hf=>
   rename_i base;cases base with
   | none=>exact⟨n,hk,fun w=>rfl,fun _ w=>rfl⟩
   | some a=>simp [bW]at hf
  | slice _=>exact⟨n,hk,fun w=>rfl,fun _ w=>f0 _ _ _ _ w⟩
  | rW _ _ _ _ _=>exact⟨n,hk,fun w=>rfl,fun _ w=>f0 _ _ _ _ w⟩
  | DP=>exact⟨_,hk,fun w=>rfl,fun _ w=>f0 _ _ _ _ w⟩
  | DQ _=>exact⟨_,hk,fun w=>rfl,fun _ w=>f0 _ _ _ _ w⟩
 ·rename_i s
  cases hx.of_flat rfl;rw [oE]at hk;exact⟨_,hk,fun w=>rfl,fun _ w=>by simp [Builtin.firstCells]⟩
 ·cases hk
theorem Vp{d:Option TypeDesc} (h:Tn d=true):(∃e,d=some (.slice e))\/d=some .string:=by
 unfold Tn at h;split at h
 ·exact .inl ⟨_,rfl⟩
 ·exact .inr rfl
 ·cases h
section
variable{ts:Array TypeId}{ty t tx e:TypeId}{i:TypeInfo}{z:Value}{base:Option Addr}{sLen sCap n:Nat}{x:Value}{news olds:List Value}{w1:World}
theorem SG (h0:ts[0]? =some t) (h1:ts[1]? =some tx) (ht:P.underlying t=some (.slice e)) (hx:Tn (P.underlying tx)=true) (hi:P.info? e=some i)
 (hlen:∀w,(Builtin.lenOf x).run P w= .ok n w) (Kc:sLen+n<=sCap) (hc:(Builtin.firstCells i.size n x).run P w= .ok ⟨news⟩ w)
 (hst:∀a,base=some a->(storeCells (a.add (sLen*i.size)) news).run P w= .ok () w1) (xP:base=none->w1=w):
 (Builtin.append_ ts ty #[.slice base sLen sCap,x]).run P w= .ok (.slice base (sLen+n) sCap) w1:=by
 rcases Vp hx with ⟨e',hx⟩ | hx
 all_goals cases base with
  | none=>cases xP rfl;simp [Builtin.append_,h0,h1,run_underlying ht,run_underlying hx,sizeOf,typeInfo,hi,hlen,Kc,hc]
  | some a=>simp [Builtin.append_,h0,h1,run_underlying ht,run_underlying hx,sizeOf,typeInfo,hi,hlen,Kc,hc,hst a rfl]
theorem SH (h0:ts[0]? =some t) (h1:ts[1]? =some tx) (ht:P.underlying t=some (.slice e)) (hx:Tn (P.underlying tx)=true) (hi:P.info? e=some i) (hz:i.zero=some z)
 (hlen:∀w,(Builtin.lenOf x).run P w= .ok n w) (Kc:sCap<sLen+n) (Cq:((sLen+n)*i.bytes<=140737488355328/\(sLen+n)<=140737488355328)) (hold:(Builtin.firstCells i.size sLen (.slice base sLen sCap)).run P w.drew= .ok ⟨olds⟩ w.drew)
 (hc:(Builtin.firstCells i.size n x).run P w.drew= .ok ⟨news⟩ w.drew):
 (Builtin.append_ ts ty #[.slice base sLen sCap,x]).run P w= .ok (.slice (some ⟨w.heap.size,0,none⟩) (sLen+n) (grownCap w (sLen+n) sCap e))
  (w.drew.alloc (.cells ⟨(olds++news)++(List.replicate (grownCap w (sLen+n) sCap e-(sLen+n)) z.cells.toList).flatten⟩ e)):=by
 have hn:¬(sLen+n<=sCap):=by omega
 have hb:(sLen+n)*i.bytes<=140737488355328:=Cq.1;have NN:sLen+n<=140737488355328:=Cq.2;have aSc:¬(9223372036854775807<((sLen:Int)+(n:Int))):=by omega
 have h48:=growslice_fits (bytes:=i.bytes) Kc (by omega);have aSd:¬(281474976710656<Builtin.nextslicecap (sLen+n) sCap*i.bytes):=by omega
 have hzz:∀m,Builtin.zeroCells z.cells m=⟨(List.replicate m z.cells.toList).flatten⟩:=by
  intro m;by_cases oX:z.cells.toList=[]
  ·have:z.cells= #[]:=jF.1 oX
   apply jF.1;simp [Builtin.zeroCells,this]
  ·exact PZ z.cells.toList z.cells rfl m oX
 rcases Vp hx with ⟨e',hx⟩ | hx<;>
  simp [Builtin.append_,h0,h1,run_underlying ht,run_underlying hx,sizeOf,typeInfo,zeroValue,hi,hz,hlen,hn,aSc,aSd,Question.forced,hc,hold,newRow,grownCap,hzz]
end
end
section
variable{P:Program}{w0:World}{U:Rn}{S:St}{w:World}
theorem Rel.uT (h:Rel P w0 U S w){b:Nat}{vs:List Value}{e:TypeId}{olds:List Nat} (ho:S.obj b=some (.cells vs e (.grown olds))):Rel P w0 U (S.set b (.cells vs e .uT)) w:=by
 have DS:∀j x,(S.set b (.cells vs e .uT)).obj j=some x->(j=b/\x= .cells vs e .uT)\/(j≠b/\S.obj j=some x):=fun j x hx=>by
  rw [HE]at hx;by_cases e:j=b
  ·rw [aK e]at hx;injection hx with hx;exact .inl ⟨e,hx.symm⟩
  ·rw [aG e]at hx;exact .inr ⟨e,hx⟩
 have hsh:∀(j:Nat) (y:jD),y.BS=false->S.obj j=some y->aIc b j (.cells vs e (.grown olds)) y->y.reads=true:=by
  intro j y hd hy hs;rcases hs with ⟨h1,_⟩ | h1 | h1
  ·cases h1
  ·obtain⟨_,h2⟩:=h.old b vs e olds ho j h1
   rcases h2 y hy with h3 | ⟨ws,t',h3,_⟩
   ·rw [h3]at hd;cases hd
   ·rw [h3];rfl
  ·cases y with
   | cells us t k=>
    cases k with
    | grown l=>
     obtain⟨_,h2⟩:=h.old j us t l hy b h1;rcases h2 _ ho with h3 | ⟨ws,t',h3,_⟩
     ·cases h3
     ·injection h3 with _ _ h3;cases h3
    | _=>cases h1
   | _=>cases h1
 refine⟨h.Pe,fun j x hx=>?_,h.dom,fun j x hx=>?_,h.loc,fun i j x y L M Tt hx hy hdx hdy hL hM hb=>?_,fun j us t l hj i hi=>?_,h.base⟩
 ·rcases DS j x hx with ⟨rfl,rfl⟩ | ⟨_,hx⟩
  ·obtain⟨L,cs,t,fz,h1,h2,h3,h4⟩:=h.PB _ _ ho
   exact⟨L,cs,t,fz,h1,h2,h3,h4.1,h4.2.2.2⟩
  ·exact h.PB j x hx
 ·rcases DS j x hx with ⟨rfl,_⟩ | ⟨_,hx⟩
  ·exact h.lt _ _ ho
  ·exact h.lt j x hx
 ·rcases DS i x hx with ⟨e1,e2⟩ | ⟨e1,ZU⟩<;>rcases DS j y hy with ⟨f1,f2⟩ | ⟨f1,hy1⟩
  ·exact aX (e1.trans f1.symm) Tt
  ·subst e1 e2
   exact .inl ⟨rfl,hsh j y hdy hy1 (h.sep i j _ y L M Tt ho hy1 rfl hdy hL hM hb)⟩
  ·subst f1 f2
   have:=h.sep j i _ x M L (aN Tt) ho ZU rfl hdx hM hL hb.symm;exact .inl ⟨hsh i x hdx ZU this,rfl⟩
  ·exact h.sep i j x y L M Tt ZU hy1 hdx hdy hL hM hb
 ·rcases DS j _ hj with ⟨_,e2⟩ | ⟨e1,hj⟩
  ·injection e2 with _ _ e2;cases e2
  ·obtain⟨h1,h2⟩:=h.old j us t l hj i hi
   refine⟨h1,fun x hx=>?_⟩;rcases DS i x hx with ⟨rfl,rfl⟩ | ⟨_,hx⟩
   ·rcases h2 _ ho with h3 | ⟨ws,t',h3,_⟩
    ·cases h3
    ·injection h3 with _ _ h3;cases h3
   ·exact h2 x hx
theorem Rel.aQq (h:Rel P w0 U S w){b:Nat}{L:Loc} (hL:U b=some L){vs:List Value}{e:TypeId} (ho:S.obj b=some (.cells vs e .uT)){olds:List Nat}
 (holds:∀i∈olds,i<S.n/\∀x,S.obj i=some x->aBe U b vs i x)
 (Ym:∀j x M,S.obj j=some x->x.BS=false->U j=some M->M.b=L.b->j=b\/j∈olds)
 {cs cs':Array Value} {t:TypeId} {fz:Nat×Nat} (hb:w.heap[L.b]? =some (.cells cs t fz)) (hsz:cs'.size=cs.size) (TW:∀j,j<L.s+vs.length->cs'[j]? =cs[j]?)
 {e2:TypeId} {s2:Nat} {new:List Value} (hlen:L.s+vs.length<=s2+new.length) (Yd:∀(j:Nat) (v:Value),new[j]? =some v->∃v',cs'[s2+j]? =some v'/\VR U v v')
 (hfz:Ph cs.size fz) (hLe:L.e=cs.size) (hm:cQ P e2=some L.m) (he2:e=e2) (CJ:w0.heap.size<=L.b):
 Rel P w0 (U.put S.n ⟨L.b,s2,L.e,L.m⟩) (S.new (.cells new e2 (.grown (b::olds)))) (w.putObj L.b (.cells cs' t fz))/\xZ U w (U.put S.n ⟨L.b,s2,L.e,L.m⟩) (w.putObj L.b (.cells cs' t fz)):=by
 have TX:=h.dom S.n (bO _);have he:Ext U (U.put S.n ⟨L.b,s2,L.e,L.m⟩):=Rn.SI TX;have Ej:=SJ (w:=w) (x:= .cells cs' t fz) hb
 have wB:∀j M,U.put S.n ⟨L.b,s2,L.e,L.m⟩ j=some M->(j=S.n/\M=⟨L.b,s2,L.e,L.m⟩)\/(j≠S.n/\U j=some M):=fun j M hj=>by
  unfold Rn.put at hj;by_cases e:j=S.n
  ·rw [aK e]at hj;injection hj with hj;exact .inl ⟨e,hj.symm⟩
  ·rw [aG e]at hj;exact .inr ⟨e,hj⟩
 have vJ:∀j x,(S.new (.cells new e2 (.grown (b::olds)))).obj j=some x->(j=S.n/\x= .cells new e2 (.grown (b::olds)))\/(j≠S.n/\S.obj j=some x):=fun j x hx=>by
  rw [YY]at hx;by_cases e:j=S.n
  ·rw [aK e]at hx;injection hx with hx;exact .inl ⟨e,hx.symm⟩
  ·rw [aG e]at hx;exact .inr ⟨e,hx⟩
 have aOf:=h.lt b _ ho
 have hte:t=e2:=by
  obtain⟨L',cs0,t0,fz0,k1,k2,_,k4⟩:=h.PB b _ ho;rw [hL]at k1;injection k1 with k1;subst k1;rw [hb]at k2;injection k2 with k2;injection k2 with _ k2 _;rw [k2,<-he2];exact k4.2.2
 refine⟨⟨fun g hg=>let⟨M,h1,h2⟩:=h.Pe g hg;⟨M,he _ _ h1,h2⟩,fun j x hx=>?_,fun j hj=>?_,fun j x hx=>?_,fun j M hj=>?_,fun i j x y M N Tt hx hy hdx hdy hM hN Tq=>?_,fun j us t' l hj i hi=>?_,?_⟩,he,⟨by rw [putObj_size];omega,fun c _ hc=>yS (aN (hc b L hL))⟩,fun j M hj=>?_⟩
 ·rcases vJ j x hx with ⟨rfl,rfl⟩ | ⟨e1,ZU⟩
  ·refine⟨_,cs',t,fz,Rn.mW _ _ _,Ej,fun j v hj=>?_,CJ,by rw [hsz];exact hfz,by rw [hsz];exact hLe,hm,hte⟩
   obtain⟨v',h1,h2⟩:=Yd j v hj;exact⟨v',h1,h2.mono he⟩
  ·cases hd:x.BS with
   | true=>cases x<;>first | trivial | cases hd
   | false=>
    obtain⟨M,hM⟩:=(h.PB j x ZU).loc hd;by_cases hMb:M.b=L.b
    ·
      have aBf:∃ws e',x= .cells ws e' .uT/\M.s+ws.length<=L.s+vs.length:=by
       rcases Ym j x M ZU hd hM hMb with e2 | Th
       ·subst e2
        rw [ho]at ZU;injection ZU with ZU;rw [hL]at hM;injection hM with hM;subst hM;exact⟨vs,e,ZU.symm,bO _⟩
       ·rcases(holds j Th).2 x ZU with h3 | ⟨ws,e',h3,h4⟩
        ·rw [h3]at hd;cases hd
        ·exact⟨ws,e',h3,h4 L M hL hM hMb⟩
      obtain⟨ws,e',rfl,hle⟩:=aBf;obtain⟨M',cs0,t0,fz0,h1,h2,h3,h4⟩:=h.PB j _ ZU;rw [hM]at h1;injection h1 with h1;subst h1;rw [hMb,hb]at h2;injection h2 with h2;injection h2 with h2 h2a h2b;subst h2 h2a h2b;refine⟨M,cs',t,fz,he _ _ hM,by rw [hMb];exact Ej,fun q v hq=>?_,h4⟩;obtain⟨v',g1,g2⟩:=h3 q v hq;have hql:q<ws.length:=(dK.1 hq).1;exact⟨v',(TW _ (by omega)).trans g1,g2.mono he⟩
    ·exact(h.PB j x ZU).frame he fun M' DH=>by rw [hM]at DH;injection DH with DH;subst DH;exact yS hMb
 ·have Yn:S.n+1<=j:=hj
  unfold Rn.put;rw [aG (by omega)];exact h.dom j (by omega)
 ·rcases vJ j x hx with ⟨e1,_⟩ | ⟨_,ZU⟩
  ·subst e1;exact xR _
  ·exact sS (h.lt j x ZU)
 ·rw [putObj_size]
  rcases wB j M hj with ⟨_,rfl⟩ | ⟨_,hM⟩
  ·exact h.loc b L hL
  ·exact h.loc j M hM
 ·rcases vJ i x hx with ⟨e1,e2⟩ | ⟨e1,ZU⟩<;>rcases vJ j y hy with ⟨f1,f2⟩ | ⟨f1,hy1⟩
  ·exact aX (e1.trans f1.symm) Tt
  ·rcases wB i M hM with ⟨_,rfl⟩ | ⟨e3,_⟩
   ·rcases wB j N hN with ⟨f3,_⟩ | ⟨_,hN1⟩
    ·exact aX f3 f1
    ·rw [e2]
     rcases Ym j y N hy1 hdy hN1 Tq.symm with h5 | h5
     ·exact .inr (.inl (by rw [h5];exact .head _))
     ·exact .inr (.inl (.tail _ h5))
   ·exact aX e1 e3
  ·rcases wB j N hN with ⟨_,rfl⟩ | ⟨f3,_⟩
   ·rcases wB i M hM with ⟨e3,_⟩ | ⟨_,hM1⟩
    ·exact aX e3 e1
    ·rw [f2]
     rcases Ym i x M ZU hdx hM1 Tq with h5 | h5
     ·exact .inr (.inr (by rw [h5];exact .head _))
     ·exact .inr (.inr (.tail _ h5))
   ·exact aX f1 f3
  ·rcases wB i M hM with ⟨e3,_⟩ | ⟨_,hM1⟩
   ·exact aX e3 e1
   ·rcases wB j N hN with ⟨f3,_⟩ | ⟨_,hN1⟩
    ·exact aX f3 f1
    ·exact h.sep i j x y M N Tt ZU hy1 hdx hdy hM1 hN1 Tq
 ·rcases vJ j _ hj with ⟨e1,e2⟩ | ⟨e1,hj1⟩
  ·injection e2 with e2 e3 e4
   injection e4 with e4;subst e1 e2 e4
   have hib:i<S.n/\∀x,S.obj i=some x->aBe U b vs i x:=by
    rcases cC.1 hi with h5 | h5
    ·subst h5
     refine⟨aOf,fun x hx=> .inr ⟨vs,e,?_,?_⟩⟩
     ·rw [ho]at hx;injection hx with hx;exact hx.symm
     ·intro L1 M1 g1 g2 _;rw [g1]at g2;injection g2 with g2;subst g2;exact bO _
    ·exact holds i h5
   refine⟨sS hib.1,fun x hx=>?_⟩;rcases vJ i x hx with ⟨e5,_⟩ | ⟨e5,ZU⟩
   ·exact aX e5 (by have:=hib.1;omega)
   ·rcases hib.2 x ZU with h6 | ⟨ws,e',h6,h7⟩
    ·exact .inl h6
    ·refine .inr ⟨ws,e',h6,fun L1 M1 g1 g2 gb=>?_⟩
     rcases wB _ _ g1 with ⟨_,rfl⟩ | ⟨g3,_⟩
     ·rcases wB _ _ g2 with ⟨g4,_⟩ | ⟨_,g4⟩
      ·exact aX g4 e5
      ·have:=h7 L M1 hL g4 gb
       simp only;omega
     ·exact aX rfl g3
  ·obtain⟨h1,h2⟩:=h.old j us t' l hj1 i hi
   refine⟨sS h1,fun x hx=>?_⟩;rcases vJ i x hx with ⟨e3,_⟩ | ⟨e3,ZU⟩
   ·omega
   ·rcases h2 x ZU with h3 | ⟨ws,e',h3,h4⟩
    ·exact .inl h3
    ·refine .inr ⟨ws,e',h3,fun L1 M1 g1 g2 gb=>?_⟩
     rcases wB _ _ g1 with ⟨g3,_⟩ | ⟨_,g3⟩
     ·exact aX g3 e1
     ·rcases wB _ _ g2 with ⟨g5,_⟩ | ⟨_,g5⟩
      ·exact aX g5 e3
      ·exact h4 L1 M1 g3 g5 gb
 ·exact⟨h.base.os,h.base.tape,h.base.output,by rw [putObj_size];exact h.base.size,fun k hk=>(yS (by omega)).trans (h.base.block k hk)⟩
 ·rcases wB j M hj with ⟨_,rfl⟩ | ⟨_,hM⟩
  ·exact .inr (.inr ⟨b,L,hL,rfl⟩)
  ·exact .inl hM
end
section
variable{P:Program}{w0:World}{U:Rn}{S:St}{w:World}
theorem Kd{t e:TypeId} (h:isSlice P t=some e):P.underlying t=some (.slice e):=gJ h
theorem aId (n:Nat) (z:List Value){m:Nat} (h:z.length=m):(List.replicate n z).flatten.length=n*m:=by simp [h]
theorem Rel.fresh (h:Rel P w0 U S w){cs cs' zl:List Value} (wL:lZ U cs cs'){uQ size g:Nat}{elem:TypeId} (hl:cs'.length=uQ*size) (hm:cQ P elem=some size) (hz:zl.length=size) (Lo:0<size) (hg:uQ<=g){olds:List Nat}
 (hold:∀i∈olds,i<S.n/\∀x,S.obj i=some x->x= .dead\/∃ws e,x= .cells ws e .uT):
 ∃U',VR U' (.slice (some ⟨S.n,0,some 0⟩) uQ uQ) (.slice (some ⟨w.heap.size,0,none⟩) uQ g)/\Rel P w0 U' (S.new (.cells cs elem (.grown olds))) (w.drew.alloc (.cells ⟨cs'++(List.replicate (g-uQ) zl).flatten⟩ elem))/\
  xZ U w U' (w.drew.alloc (.cells ⟨cs'++(List.replicate (g-uQ) zl).flatten⟩ elem)):=by
 obtain⟨r1,r2⟩:=h.drew.aA8 (more:=(List.replicate (g-uQ) zl).flatten) wL elem hm (0,0) (by intro x _;omega) olds hold;have hL:=Rn.mW U S.n ⟨w.drew.heap.size,0,(cs'++(List.replicate (g-uQ) zl).flatten).length,size⟩;refine⟨_,?_,r1,(xZ.drew U w).trans r2⟩
 have hlen:(cs'++(List.replicate (g-uQ) zl).flatten).length=g*size:=by
  rw [jZ,hl,aId _ _ hz,<-KU]
  congr 1
  omega
 exact VR.rW (o:=0) (n:=uQ) (c:=uQ) (c':=g) hL hg (bO _) (by simp only [hlen];omega) Lo
theorem Yo (h:Rel P w0 U S w){ts:Array TypeId}{ty t tx e:TypeId}{i:TypeInfo}{size:Nat} (h0:ts[0]? =some t) (h1:ts[1]? =some tx) (ht:P.underlying t=some (.slice e)) (Ty:Tn (P.underlying tx)=true) (hi:P.info? e=some i) (TY:i.size=size)
 {base:Option Addr} {sLen sCap n:Nat} {s' _x x':Value} {new new':List Value} {K:VK} (hs:VR U (.slice base sLen sCap) s') (hlen:∀w,(Builtin.lenOf x').run P w= .ok n w) (hn:lZ U new new')
 (hc:(Builtin.firstCells size n x').run P w= .ok ⟨new'⟩ w) (Cr:sLen+n<=sCap) (hk:Id size new base sLen sCap (sLen+n) S K=true):
 ∃U' v S' v' w',K v S'=true/\(Builtin.append_ ts ty #[s',x']).run P w= .ok v' w'/\VR U' v v'/\Rel P w0 U' S' w'/\xZ U w U' w':=by
 unfold Id at hk;split at hk
 ·rename_i b o sp
  split at hk
  ·rename_i AW RX
   rw [bH]at hk;rw [nG]at RX;have RX:=Ek hn (dL.1 RX);rcases hs.mZ with ⟨L,c',hL,rfl,aDj⟩ | ⟨⟨_,aIe⟩,_⟩
   ·obtain⟨S',w',hk,r1,r2,fU⟩:=DT h hk hL hn RX
    refine⟨U,_,S',_,w',hk,SG h0 h1 ht Ty hi hlen (by rcases aDj with ⟨_,e⟩ | ⟨_,e,_⟩<;>omega) (by rw [TY];exact hc) (fun a ha=>?_) (fun e=>by cases e),?_,r1,r2⟩
    ·injection ha with ha
     rw [<-ha,rX,TY,vG];exact fU
    ·rcases aDj with ⟨rfl,rfl⟩ | ⟨rfl,e1,e2,e3,e4⟩
     ·exact .slice hL
     ·exact .rW hL e1 Cr e3 e4
   ·rw [aIe]at AW;cases AW
  ·cases hk
 ·cases hk
theorem Tz (h:Rel P w0 U S w){ts:Array TypeId}{ty t tx e:TypeId}{i:TypeInfo}{z:Value}{size:Nat} (h0:ts[0]? =some t) (h1:ts[1]? =some tx) (ht:P.underlying t=some (.slice e)) (Ty:Tn (P.underlying tx)=true) (hi:P.info? e=some i) (TY:i.size=size) (hz:i.zero=some z) (Yh:z.cells.size=size) (Lo:0<size)
 {base:Option Addr} {sLen sCap n:Nat} {s' _x x':Value} {new new':List Value} {K:VK} (hs:VR U (.slice base sLen sCap) s') (hlen:∀w,(Builtin.lenOf x').run P w= .ok n w) (hn:lZ U new new') (Ye:new'.length=n*size)
 (hc:(Builtin.firstCells size n x').run P w= .ok ⟨new'⟩ w) (hcD:(Builtin.firstCells size n x').run P w.drew= .ok ⟨new'⟩ w.drew) (Cr:¬sLen+n<=sCap) (Cq:((sLen+n)*i.bytes<=140737488355328/\(sLen+n)<=140737488355328))
 (hk:Ea P e size new base sLen (sLen+n) S K=true):
 ∃U' v S' v' w',K v S'=true/\(Builtin.append_ ts ty #[s',x']).run P w= .ok v' w'/\VR U' v v'/\Rel P w0 U' S' w'/\xZ U w U' w':=by
 have hm:cQ P e=some size:=by unfold cQ;rw [hi];simp [TY]
 have My:z.cells.toList.length=size:=by simpa using Yh
 subst TY;unfold Ea at hk;split at hk
 ·
   cases hs.of_flat rfl;split at hk
   ·simp only [TU,nI,jH,Bx]at hk
    rw [dX]at hk Cr Cq;have fU:=SH (w:=w) (ty:=ty) (base:=none) (sLen:=0) (sCap:=sCap) (olds:=[]) h0 h1 ht Ty hi hz hlen (by omega) (by rw [dX];exact Cq) rfl hcD;rw [dX,Bx]at fU;obtain⟨U',r0,r1,r2⟩:=h.fresh hn Ye hm My Lo (grownCap_ge w n sCap e) (olds:=[]) (by simp);exact⟨U',_,_,_,_,hk,fU,r0,r1,r2⟩
   ·cases hk
 ·
   rename_i b o;rcases hs.mZ with ⟨L,c',hL,rfl,⟨_,rfl⟩ | ⟨AW,_⟩⟩ | ⟨⟨_,AW⟩,_⟩
   ·obtain⟨vs,e',ck,ho,hle,hk⟩:=GB hk
    obtain⟨aIf,Tg,hol,hcell⟩:=h.KM ho hL hle;simp only [TU,nI,jH]at hk;have fU:=SH (w:=w) (ty:=ty) (base:=some ⟨L.b,L.s+o,none⟩) (sLen:=sLen) (sCap:=c') (olds:=aIf) h0 h1 ht Ty hi hz hlen (by omega) Cq (run_loadCells (w:=w.drew) _ aIf hol hcell) hcD;obtain⟨U',r0,r1,r2⟩:=h.fresh (Tg.append hn) (by rw [jZ,hol,Ye,<-KU]) hm My Lo (grownCap_ge w (sLen+n) c' e) (olds:=[]) (by simp);exact⟨U',_,_,_,_,hk,fU,r0,r1,r2⟩
   ·cases AW
   ·cases AW
 ·
   rename_i b o;rcases hs.mZ with ⟨L,c',hL,rfl,⟨AW,_⟩ | ⟨_,hcc,hnc,Ua,hmp⟩⟩ | ⟨⟨_,AW⟩,_⟩
   ·cases AW
   ·obtain⟨vs,e',ck,ho,hk⟩:=HT hk
    rw [oE]at hk;split at hk
    ·rename_i olds q aSe hq
     have hvl:=dI aSe;split at hk
     ·rename_i hqs RX hel
      have hqs:=dI hqs;subst hqs;have hel:=dI hel;rw [nG]at RX;have RX:=Ek hn (dL.1 RX);obtain⟨vs2,e2,ck2,BU,hle,hk⟩:=GB hk;rw [ho]at BU;injection BU with BU;injection BU with q1 q2 q3;subst q1 q2;obtain⟨aIf,Tg,hol,hcell⟩:=h.KM ho hL hle;simp only [TU,nI,jH,iB]at hk;obtain⟨cs,t',fz,hb,hcv,CJ,aND,hLe,hLm,_⟩:=h.cells ho hL;have hLm:L.m=i.size:=by rw [hq]at hLm;injection hLm with hLm;exact hLm.symm
      have hst:=h.uT ho;have hob:(S.set b (.cells vs e' .uT)).obj b=some (.cells vs e' .uT):=by rw [HE,aK rfl]
      have aOf:=h.lt b _ ho
      have holds:∀q∈olds,q<S.n/\∀y,(S.set b (.cells vs e' .uT)).obj q=some y->aBe U b vs q y:=by
       intro q hq;obtain⟨g1,g2⟩:=h.old b vs e' olds ho q hq;refine⟨g1,fun y hy=>?_⟩;rw [HE]at hy;split at hy
       ·rename_i eq
        rcases g2 _ (eq▸ho)with g3 | ⟨ws,u,g3,_⟩
        ·cases g3
        ·injection g3 with _ _ g3;cases g3
       ·exact g2 y hy
      by_cases Kc:sLen+n<=c'
      ·
        have aQr:L.s+o+sLen*i.size+new'.length<=cs.size:=by
         rw [Ye,vG,<-KU,<-hLe];rw [hLm]at Ua;have:=RP i.size Kc;omega
        have hsc:=DU (P:=P) new' w L.b (L.s+o+sLen*i.size) 0 cs t' fz hb (by simpa using aQr) (fun x ZU hx2=>aND x (by simp at ZU hx2;omega)) RX;simp only [VZ]at hsc;have aSf:cs.toList.length=cs.size:=rfl
        have Ej:∀j:Nat,(⟨aY (L.s+o+sLen*i.size) new' cs.toList⟩:Array Value)[j]? =if L.s+o+sLen*i.size<=j/\j<L.s+o+sLen*i.size+new'.length then new'[j-(L.s+o+sLen*i.size)]? else cs[j]? :=by
         intro j;have:=sV (L.s+o+sLen*i.size) new' cs.toList (by omega) j;simpa using this
        obtain⟨r1,r2⟩:=hst.aQq (S:=S.set b (.cells vs e' .uT)) hL hob (olds:=olds) holds
         (fun j y M hy hd hM hMb=>by
          rw [HE]at hy;split at hy
          ·rename_i eq;exact .inl eq
          ·rename_i eq
           rcases h.sep b j _ y L M (aN eq) ho hy rfl hd hL hM hMb.symm with ⟨g1,_⟩ | g1 | g1
           ·cases g1
           ·exact .inr g1
           ·cases y with
            | cells us u kk=>
             cases kk with
             | grown l=>
              obtain⟨_,g2⟩:=h.old j us u l hy b g1;rcases g2 _ ho with g3 | ⟨ws,u',g3,_⟩
              ·cases g3
              ·injection g3 with _ _ g3;cases g3
             | _=>cases g1
            | _=>cases g1)
         (cs':=⟨aY (L.s+o+sLen*i.size) new' cs.toList⟩) hb (by show(aY _ _ _).length=_;rw [HC _ _ _ (by omega)];exact aSf)
         (fun j hj=>by rw [Ej,aG (by omega)]) (e2:=e) (s2:=L.s+o) (new:=(vs.drop o).take (sLen*i.size)++new)
         (by
          have:=Tg.1;rw [jZ];omega)
         (fun j v hj=>by
          have aQs:((vs.drop o).take (sLen*i.size)).length=sLen*i.size:=by rw [Tg.1,hol]
          rw [List.getElem?_append]at hj;rw [Ej];split at hj
          ·rename_i hlt
           rw [aQs]at hlt;rw [aG (by omega)];rw [sR,aK hlt,rH]at hj;rw [vG];exact hcv _ _ hj
          ·rename_i hlt
           rw [aQs]at hlt hj;have hjl:=(dK.1 hj).1;have:=hn.1;rw [aK (by omega),show L.s+o+j-(L.s+o+sLen*i.size)=j-sLen*i.size by omega];exact hn.get hj)
         aND hLe (by rw [hLm];exact hm) hel CJ
        refine⟨_,_,_,_,_,hk,SG (w1:=w.putObj L.b (.cells ⟨aY (L.s+o+sLen*i.size) new' cs.toList⟩ t' fz)) h0 h1 ht Ty hi hlen Kc hc (fun a ha=>?_) (fun e=>by cases e),?_,r1,?_⟩
        ·injection ha with ha
         rw [<-ha,rX];exact hsc
        ·have hL2:=Rn.mW U S.n ⟨L.b,L.s+o,L.e,L.m⟩
         exact VR.rW (o:=0) (n:=sLen+n) (c:=sLen+n) (c':=c') hL2 Kc (bO _) Ua hmp
        ·exact r2
      ·
        have fU:=SH (w:=w) (ty:=ty) (base:=some ⟨L.b,L.s+o,none⟩) (sLen:=sLen) (sCap:=c') (olds:=aIf) h0 h1 ht Ty hi hz hlen (by omega) Cq (run_loadCells (w:=w.drew) _ aIf hol hcell) hcD
        obtain⟨U',r0,r1,r2⟩:=hst.fresh (S:=S.set b (.cells vs e' .uT)) (Tg.append hn) (by rw [jZ,hol,Ye,<-KU]) hm My Lo (grownCap_ge w (sLen+n) c' e) (olds:=b::olds)
         (fun q hq=>by
          rcases cC.1 hq with rfl | hq
          ·refine⟨aOf,fun y hy=>?_⟩
           rw [hob]at hy;injection hy with hy;exact .inr ⟨vs,e',hy.symm⟩
          ·obtain⟨g1,g2⟩:=holds q hq
           refine⟨g1,fun y hy=>?_⟩;rcases g2 y hy with g3 | ⟨ws,u,g3,_⟩
           ·exact .inl g3
           ·exact .inr ⟨ws,u,g3⟩)
        exact⟨U',_,_,_,_,hk,fU,r0,r1,r2⟩
     ·cases hk
    ·cases hk
   ·cases AW
 ·cases hk
theorem Ub (h:Rel P w0 U S w){ts:Array TypeId}{ty:TypeId}{s s' x x':Value}{K:VK} (hk:RW P ts.toList s x S K=true) (hs:VR U s s') (hx:VR U x x'):
 ∃U' v S' v' w',K v S'=true/\(Builtin.append_ ts ty #[s',x']).run P w= .ok v' w'/\VR U' v v'/\Rel P w0 U' S' w'/\xZ U w U' w':=by
 unfold RW at hk;split at hk
 ·rename_i sT xT rest Pf
  have h0:ts[0]? =some sT:=by have:=kB (·[0]?) Pf;simpa using this
  have h1:ts[1]? =some xT:=by have:=kB (·[1]?) Pf;simpa using this
  split at hk
  ·rename_i elem he Ty
   have ht:=gJ he;split at hk
   ·rename_i info hi
    split at hk
    ·rename_i size z base sLen sCap TY hz
     split at hk
     ·rename_i Yh
      have Yh:=dI Yh;obtain⟨n,hk,hlen,hf0⟩:=Kb (P:=P) hk hx;split at hk
      ·
        split at hk
        ·rename_i hle
         have hle:=cG hle
         have main:∀Vq c',sLen<=c'->s'= .slice Vq sLen c'->∃U' v S' v' w',K v S'=true/\(Builtin.append_ ts ty #[s',x']).run P w= .ok v' w'/\VR U' v v'/\Rel P w0 U' S' w'/\xZ U w U' w':=by
          intro Vq c' hc' e;refine⟨U,_,S,_,w,hk,?_,hs,h,.refl U w⟩;rw [e];exact SG (w1:=w) h0 h1 ht Ty hi hlen (by omega) (hf0 _ w) (fun a _=>by rfl) (fun _=>rfl)
         cases hs with
         | flat _=>exact main _ _ hle rfl
         | slice _=>exact main _ _ hle rfl
         | rW _ _ _ _ _=>exact main _ _ (by omega) rfl
         | DP=>exact main _ _ (by omega) rfl
         | DQ _=>exact main _ _ (by omega) rfl
        ·cases hk
      ·obtain⟨new,new',hk,hn,Ye,hc,hcD⟩:=Ei h hk hx
       rw [bH]at hk;split at hk
       ·rename_i hb
        have hb:=aH4 hb;split at hk
        ·rename_i Cr
         exact Yo (_x:=x) h h0 h1 ht Ty hi TY hs hlen hn hc (cG Cr) hk
        ·rename_i Cr
         exact Tz (_x:=x) h h0 h1 ht Ty hi TY hz Yh (Oo _) hs hlen hn Ye hc hcD (fun e=>by rw [nT e]at Cr;cases Cr) hb hk
       ·cases hk
     ·cases hk
    ·cases hk
   ·cases hk
  ·cases hk
 ·cases hk
theorem aBg (h:Rel P w0 U S w){ts:Array TypeId}{ty:TypeId}{d d' x x':Value}{K:VK} (hk:Vl P ts.toList d x S K=true) (hd:VR U d d') (hx:VR U x x'):
 ∃v S' v' w',K v S'=true/\(Builtin.copy_ ts ty #[d',x']).run P w= .ok v' w'/\VR U v v'/\Rel P w0 U S' w'/\xZ U w U w':=by
 unfold Vl at hk;split at hk
 ·rename_i dT rest Pf
  have h0:ts[0]? =some dT:=by have:=kB (·[0]?) Pf;simpa using this
  split at hk
  ·rename_i elem he
   have ht:=gJ he;split at hk
   ·rename_i size base aOb aTs TY
    obtain⟨m,hk,hlen,hf0⟩:=Kb (P:=P) hk hx;rw [bH]at hk;split at hk
    ·rename_i aGB
     refine⟨_,S,.int .i64 0,w,hk,?_,.flat rfl,h,.refl U w⟩
     have main:∀Vq c',(Builtin.copy_ ts ty #[.slice Vq aOb c',x']).run P w= .ok (.int .i64 0) w:=by
      intro Vq c';cases Vq with
      | none=>simp only [Builtin.copy_,aC8,Xk,Bs,h0,cR,run_underlying ht,eL,hlen,jG TY,aGB,hf0,kR,goInt];rfl
      | some a=>simp only [Builtin.copy_,aC8,Xk,Bs,h0,cR,run_underlying ht,eL,hlen,jG TY,aGB,hf0,kR,goInt];rfl
     cases hd with
     | flat _=>exact main _ _
     | slice _=>exact main _ _
     | rW _ _ _ _ _=>exact main _ _
     | DP=>exact main _ _
     | DQ _=>exact main _ _
    ·rename_i n' aGB
     obtain⟨new,new',hk,hn,Ye,hc,hcD⟩:=Ei h hk hx;split at hk
     ·rename_i i o sp
      split at hk
      ·rename_i AW RX
       rw [nG]at RX;have RX:=Ek hn (dL.1 RX);rcases hd.mZ with ⟨L,c',hL,rfl,_⟩ | ⟨⟨_,aIe⟩,_⟩
       ·obtain⟨S',w',hk,r1,r2,fU⟩:=DT h hk hL hn RX
        refine⟨_,S',.int .i64 ((n'+1:Nat):Int),w',hk,?_,.flat rfl,r1,r2⟩;simp only [Builtin.copy_,aC8,Xk,Bs,h0,cR,run_underlying ht,eL,hlen,jG TY,aGB,hc,fU,kR,goInt]
       ·rw [aIe]at AW;cases AW
      ·cases hk
     ·cases hk
   ·cases hk
  ·cases hk
 ·cases hk
end
section
variable{P:Program}{w0:World}{U:Rn}{S:St}{w:World}
def Out (P:Program) (w0:World) (U:Rn) (w:World) (K:VK) (s:Sem Next):Prop:=
 ∃r U' v S' v' w',K v S'=true/\s.run P w= .ok r w'/\(r= .value v'\/(r= .skip/\v'=undef))/\VR U' v v'/\Rel P w0 U' S' w'/\xZ U w U' w'
theorem Out.here (h:Rel P w0 U S w){K:VK}{s:Sem Value}{v v':Value} (hk:K v S=true) (hv:VR U v v') (hr:s.run P w= .ok v' w):Out P w0 U w K (do pure (.value (<-s))):=
 ⟨_,U,v,S,v',w,hk,by rw [cR,hr];rfl,.inl rfl,hv,h,.refl U w⟩
theorem Out.new{K:VK}{s:Sem Value} (h:∃U' v S' v' w',K v S'=true/\s.run P w= .ok v' w'/\VR U' v v'/\Rel P w0 U' S' w'/\xZ U w U' w'):Out P w0 U w K (do pure (.value (<-s))):=by
 obtain⟨U',v,S',v',w',hk,hr,hv,h1,h2⟩:=h;exact⟨_,U',v,S',v',w',hk,by rw [cR,hr];rfl,.inl rfl,hv,h1,h2⟩
theorem Out.unit{K:VK}{s:Sem Unit} (h:∃S' w',K undef S'=true/\Rel P w0 U S' w'/\xZ U w U w'/\s.run P w= .ok () w'):Out P w0 U w K (do s;pure .skip):=by
 obtain⟨S',w',hk,h1,h2,hr⟩:=h;exact⟨_,U,undef,S',undef,w',hk,by rw [cR,hr];rfl,.inr ⟨rfl,rfl⟩,.tuple rfl (by simp),h1,h2⟩
theorem VR.nat{k:IntKind}{n:Nat}:VR U (.int k (.ofNat n)) (.int k (n:Int)):= .flat rfl
theorem VR.undef:VR U undef undef:= .tuple rfl (by simp)
theorem aDm{ts:Array TypeId}{ty t e:TypeId}{zero:List Value}{n c:Nat}{a:Addr}{w':World} (h0:ts[0]? =some t) (ht:P.underlying t=some (.slice e)) (hz:xC P e=some zero) (hn:n≠0) (oX:zero≠[])
 (hs:(storeCells a (List.replicate n zero).flatten).run P w= .ok () w'):(Builtin.clear_ ts ty #[.slice (some a) n c]).run P w= .ok (.tuple #[]) w':=by
 obtain⟨zv,If,Tf⟩:=GA hz w
 have hzz:Builtin.zeroCells zv.cells n=⟨(List.replicate n zero).flatten⟩:=by
  have:=PZ zero zv.cells Tf n oX;have hl:zv.cells.size=zero.length:=by rw [<-Tf];rfl
  unfold Builtin.zeroCells;rw [show n*zv.cells.size=n*zero.length by rw [hl]];exact this
 cases n with
 | zero=>exact aX rfl hn
 | succ n=>simp [Builtin.clear_,h0,run_underlying ht,If,hzz,hs]
theorem aGD{ts:Array TypeId}{ty:TypeId}{j:IntKind}{K:Value->Bool}:∀{l l':List Value} {x:Int},Al false l j x K=true->lZ U l l'->∃y,K (.int j y)=true/\∀w,(Builtin.min_ ts ty ⟨.int j x::l'⟩).run P w= .ok (.int j y) w:=by
 intro l;induction l with
 | nil=>intro l' x hk hl;cases hl.lE;exact⟨x,hk,fun w=>by simp [Builtin.min_]⟩
 | cons v l ih=>
  intro l' x hk hl;obtain⟨v',t',rfl,hv,ht⟩:=hl.dM;cases v with
  | int k y=>
   cases hv.of_flat rfl;have hk:gE (ltI y x) (Al false l j y K) (Al false l j x K)=true:=hk;rw [WO]at hk;by_cases hlt:y<x
   ·rw [bF hlt]at hk
    obtain⟨z,hz,hr⟩:=ih hk ht;refine⟨z,hz,fun w=>?_⟩;have:=hr w;simp only [Builtin.min_,Xt,Builtin.min2,aK hlt,cR,kR,eL]at this ⊢;exact this
   ·rw [bN hlt]at hk
    obtain⟨z,hz,hr⟩:=ih hk ht;refine⟨z,hz,fun w=>?_⟩;have:=hr w;simp only [Builtin.min_,Xt,Builtin.min2,aG hlt,cR,kR,eL]at this ⊢;exact this
  | _=>cases hk
theorem aGE{ts:Array TypeId}{ty:TypeId}{j:IntKind}{K:Value->Bool}:∀{l l':List Value} {x:Int},Al true l j x K=true->lZ U l l'->∃y,K (.int j y)=true/\∀w,(Builtin.max_ ts ty ⟨.int j x::l'⟩).run P w= .ok (.int j y) w:=by
 intro l;induction l with
 | nil=>intro l' x hk hl;cases hl.lE;exact⟨x,hk,fun w=>by simp [Builtin.max_]⟩
 | cons v l ih=>
  intro l' x hk hl;obtain⟨v',t',rfl,hv,ht⟩:=hl.dM;cases v with
  | int k y=>
   cases hv.of_flat rfl;have hk:gE (ltI x y) (Al true l j y K) (Al true l j x K)=true:=hk;rw [WO]at hk;by_cases hlt:x<y
   ·rw [bF hlt]at hk
    obtain⟨z,hz,hr⟩:=ih hk ht;refine⟨z,hz,fun w=>?_⟩;have:=hr w;simp only [Builtin.max_,Xt,Builtin.max2,aK hlt,cR,kR,eL]at this ⊢;exact this
   ·rw [bN hlt]at hk
    obtain⟨z,hz,hr⟩:=ih hk ht;refine⟨z,hz,fun w=>?_⟩;have:=hr w;simp only [Builtin.max_,Xt,Builtin.max2,aG hlt,cR,kR,eL]at this ⊢;exact this
  | _=>cases hk
theorem Pk (h:Rel P w0 U S w){b:Builtin}{ts:Array TypeId}{ty:TypeId}{cs:Array Bool}{args eX:List Value}{K:VK} (hk:oZ P b ts.toList args S K=true) (ha:lZ U args eX):
 Out P w0 U w K (builtin b ts ty cs ⟨eX⟩):=by
 unfold oZ at hk;split at hk
 ·
   rename_i x;obtain⟨x',t',rfl,hx,ht'⟩:=ha.dM;cases ht'.lE;split at hk
   ·rename_i t rest Pf
    have h0:ts[0]? =some t:=by have:=kB (·[0]?) Pf;simpa using this
    split at hk
    ·rename_i base n c
     split at hk
     ·rename_i e he
      have hu:=gJ he;refine Out.here h hk (v':= .int .i64 (n:Int)) .nat ?_;have main:∀b' c',(Builtin.len_ ts ty ⟨[.slice b' n c']⟩).run P w= .ok (.int .i64 (n:Int)) w:=fun b' c'=>by simp [Builtin.len_,h0,run_underlying hu,goInt]
      cases hx with
      | flat _=>exact main _ _
      | slice _=>exact main _ _
      | rW _ _ _ _ _=>exact main _ _
      | DP=>exact main _ _
      | DQ _=>exact main _ _
     ·cases hk
    ·rename_i s
     cases hx.of_flat rfl;split at hk
     ·rename_i hu
      rw [oE]at hk;refine Out.here h hk (v':= .int .i64 (s.data.toList.length:Int)) .nat ?_;simp [Builtin.len_,h0,run_underlying hu,goInt]
     ·cases hk
    ·rename_i r
     split at hk
     ·rename_i q hm
      have hu:=CI hm;rcases KN hk with ⟨e1,vZ⟩ | ⟨r,es,c,e1,ho,vZ⟩
      ·rw [e1]at hx
       cases hx.of_flat rfl;exact Out.here h vZ (v':= .int .i64 0) (.flat rfl) (by simp [Builtin.len_,h0,run_underlying hu,goInt])
      ·rw [e1]at hx
       obtain⟨L,hL,rfl⟩:=hx.KE;obtain⟨jT,_,hb,YX⟩:=h.map ho hL;simp only [oE]at vZ;refine Out.here h vZ (v':= .int .i64 (es.length:Int)) .nat ?_;have hl:jT.size=es.length:=by rw [YX.1];rfl
       simp [Builtin.len_,h0,run_underlying hu,MapKept.run_getObj_map hb,goInt,hl]
     ·cases hk
    ·split at hk
     ·rename_i n e hu
      exact Out.here h hk (v':= .int .i64 (n:Int)) .nat (by simp [Builtin.len_,h0,run_underlying hu,goInt])
     ·cases hk
    ·cases hk
   ·cases hk
 ·obtain⟨s',t1,rfl,hs,ht1⟩:=ha.dM
  obtain⟨x',t2,rfl,hx,Ti⟩:=ht1.dM;cases Ti.lE;exact Out.new (Ub h hk hs hx)
 ·obtain⟨s',t1,rfl,hs,ht1⟩:=ha.dM
  obtain⟨x',t2,rfl,hx,Ti⟩:=ht1.dM;cases Ti.lE;obtain⟨v,S',v',w',h1,h2,h3,h4,h5⟩:=aBg h hk hs hx;exact Out.new ⟨U,v,S',v',w',h1,h2,h3,h4,h5⟩
 ·obtain⟨s',t1,rfl,hs,ht1⟩:=ha.dM
  obtain⟨x',t2,rfl,hx,Ti⟩:=ht1.dM;cases Ti.lE;obtain⟨S',w',h1,h2,h3,h4⟩:=Tv (t:=ty) h hk hs hx;exact Out.new ⟨U,_,S',_,w',h1,h4,.undef,h2,h3⟩
 ·rename_i j x l
  obtain⟨s',t1,rfl,hs,ht1⟩:=ha.dM;cases hs.of_flat rfl;obtain⟨y,hk,fU⟩:=aGD hk ht1;exact Out.here h hk (.flat rfl) (fU w)
 ·rename_i j x l
  obtain⟨s',t1,rfl,hs,ht1⟩:=ha.dM;cases hs.of_flat rfl;obtain⟨y,hk,fU⟩:=aGE hk ht1;exact Out.here h hk (.flat rfl) (fU w)
 ·
   rename_i x;obtain⟨x',t',rfl,hx,ht'⟩:=ha.dM;cases ht'.lE;split at hk
   ·rename_i t rest Pf
    have h0:ts[0]? =some t:=by have:=kB (·[0]?) Pf;simpa using this
    split at hk
    ·rename_i c he
     have hu:=gJ he;cases hx.of_flat rfl;exact Out.here h hk (v':= .int .i64 (c:Int)) .nat (by simp [Builtin.cap_,h0,run_underlying hu,goInt])
    ·rename_i c he
     have hu:=gJ he;rcases hx.mZ with ⟨L,c1,hL,rfl,⟨_,rfl⟩ | ⟨hs,_⟩⟩ | ⟨⟨_,hs⟩,_⟩
     ·exact Out.here h hk (v':= .int .i64 (c1:Int)) .nat (by simp [Builtin.cap_,h0,run_underlying hu,goInt])
     ·cases hs
     ·cases hs
    ·cases hk
   ·cases hk
 ·
   rename_i base n c;obtain⟨s',t1,rfl,hs,ht1⟩:=ha.dM;cases ht1.lE;split at hk
   ·rename_i t rest Pf
    have h0:ts[0]? =some t:=by have:=kB (·[0]?) Pf;simpa using this
    split at hk
    ·rename_i elem he
     have hu:=gJ he;split at hk
     ·rename_i size zero hsz hz
      split at hk
      ·cases hs.of_flat rfl
       exact Out.here h hk .undef (v':= .tuple #[]) (by simp [Builtin.clear_,h0,run_underlying hu])
      ·refine Out.here h hk .undef (v':= .tuple #[]) ?_
       have main:∀b' c',(Builtin.clear_ ts ty ⟨[.slice b' 0 c']⟩).run P w= .ok (.tuple #[]) w:=fun b' c'=>by cases b'<;>simp [Builtin.clear_,h0,run_underlying hu]
       cases hs with
       | flat _=>exact main _ _
       | slice _=>exact main _ _
       | rW _ _ _ _ _=>exact main _ _
       | DP=>exact main _ _
       | DQ _=>exact main _ _
      ·rename_i i o sp n
       split at hk
       ·rename_i q AW Jz My
        rw [HD]at hk;rw [nG]at Jz;have aQt:∀v∈zero,bW v=true:=dL.1 Jz;have My:=dI My;have Vm:lZ U (List.replicate (n+1) zero).flatten (List.replicate (n+1) zero).flatten:=(lZ.flat aQt).flatten _;rcases hs.mZ with ⟨L,c',hL,rfl,_⟩ | ⟨⟨_,aIe⟩,_⟩
        ·obtain⟨S',w',hk,r1,r2,fU⟩:=DT h hk hL Vm (fun v hv=>by
          simp only [List.mem_flatten,aDd]at hv;obtain⟨l,⟨_,rfl⟩,hv⟩:=hv;have:=aQt v hv;cases v<;>first | rfl | (simp [bW]at this))
         exact Out.new ⟨U,_,S',_,w',hk,aDm h0 hu hz (by omega) (by intro e;rw [e]at My;simp at My) fU,.undef,r1,r2⟩
        ·rw [aIe]at AW;cases AW
       ·cases hk
     ·cases hk
    ·cases hk
   ·cases hk
 ·cases hk
end
theorem Ap{P:Program}{t:TypeId}{i:TypeInfo} (h:P.info? t=some i) (w:World):(typeInfo t).run P w= .ok i w:=by
 simp [typeInfo,h]
theorem Uc{P:Program}{t:TypeId}{name:String}{g:FuncId} (h:KX P t name=some g) (x:Value) (w:World):(nilAhead (P.types.size+Made.depth) t x name).run P w= .ok (some false) w:=by
 unfold KX at h;split at h
 ·rename_i info d hi hd
  split at h
  ·rename_i m hm
   split at h
   ·rename_i g' pr hp hf
    have hp:m.path= #[]:=jF.1 (by simpa using hp);have aIi:P.types.size+Made.depth=(P.types.size+99)+1:=rfl;rw [aIi];unfold nilAhead;simp only [cR,Ap hi,eL,hm,hp];unfold followBlind;simp only [kR,eL,hf];cases pr with
    | true=>rfl
    | false=>
     simp only [cR,run_underlying hd,eL];revert h hd;cases d<;>intro hd h<;>first | rfl | cases h
   ·cases h
  ·cases h
 ·cases h
theorem NO{P:Program}{t:TypeId}{name:String}{g:FuncId} (h:KX P t name=some g) (x:Value) (w:World):
 (do
  if(<-nilAhead ((<-program).types.size+Made.depth) t x name) != some false then
   unsupported (.noEntry "op/nilCheck.the method's receiver behind this interface value is a nil pointer, or cannot be seen to be none, and the arguments act or may panic (ledger 612)")
  pure (.value (.func (.method name) ⟨[.iface t x]⟩ ⟨[]⟩)):Sem Go.Next).run P w= .ok (.value (.func (.method name) ⟨[.iface t x]⟩ ⟨[]⟩)) w:=by
 simp only [cR,run_program,eL,Uc h];rfl
section
variable{E:Env}{w0:World}{U:Rn}{S:St}{w:World}
theorem lZ.map_toArray{f:Operand->Value}{vs:List Value}{xs:Array Operand} (h:lZ U vs (xs.toList.map f)):lZ U (⟨vs⟩:Array Value).toList (xs.map f).toList:=by simpa using h
def Quiet (o:Oper):Prop:=∀c,o.op= .call c->∃b,c.callee= .builtin b
theorem aGF (h:Rel E.P w0 U S w){A:bA}{a:Act} (hA:BR E.P U A a){o:Oper} (hq:Quiet o){K:VK} (hk:AN E o A S K=true):Out E.P w0 U w K (execOp a.eval o):=by
 unfold AN at hk;unfold execOp;split at hk<;>rename_i Pl<;>simp only [Pl]
 ·obtain⟨v,hk,hv⟩:=aT h hA hk
  exact⟨_,U,v,S,_,w,hk,rfl,.inl rfl,hv,h,.refl U w⟩
 ·obtain⟨v,hk,hv⟩:=aT h hA hk
  exact⟨_,U,v,S,_,w,hk,rfl,.inl rfl,hv,h,.refl U w⟩
 ·obtain⟨c,hk,hc⟩:=aT h hA hk
  obtain⟨x,hk,hx⟩:=aT h hA hk;obtain⟨y,hk,hy⟩:=aT h hA hk;split at hk
  ·have:=hc.of_flat rfl
   exact⟨_,U,_,S,_,w,hk,by simp [this,asBool],.inl rfl,hx,h,.refl U w⟩
  ·have:=hc.of_flat rfl
   exact⟨_,U,_,S,_,w,hk,by simp [this,asBool],.inl rfl,hy,h,.refl U w⟩
  ·cases hk
 ·exact Out.new (Yg h hk)
 ·obtain⟨v,hk,hv⟩:=aT h hA hk
  exact Out.new (aDi h hk hv)
 ·obtain⟨v,v',hk,hv,hr⟩:=Ee h hA hk
  exact Out.here h hk hv (hr w)
 ·exact Out.new (Ef h hA hk)
 ·obtain⟨x,hk,hx⟩:=aT h hA hk
  obtain⟨v,v',hk,hv,hr⟩:=WP h hk hx;exact Out.here h hk hv hr
 ·obtain⟨x,hk,hx⟩:=aT h hA hk
  obtain⟨y,hk,hy⟩:=aT h hA hk;exact Out.unit (Yp h hk hx hy)
 ·obtain⟨x,hk,hx⟩:=aT h hA hk
  split at hk
  ·rename_i ad
   obtain⟨i,off,sp⟩:=ad;have hx2:=hx;obtain⟨_,L,hL,e⟩:=hx.KC;rw [e]at hx2 ⊢;exact⟨_,U,_,S,_,w,hk,rfl,.inl rfl,hx2,h,.refl U w⟩
  ·rename_i f x1 x2
   generalize hg:a.eval _=v' at hx ⊢;cases hx with
   | flat hf=>simp [bW]at hf
   | func h1 h2 h3 h4=>exact⟨_,U,_,S,_,w,hk,rfl,.inl rfl,.func h1 h2 h3 h4,h,.refl U w⟩
  ·rename_i f x1 x2
   generalize hg:a.eval _=v' at hx ⊢;cases hx with
   | flat hf=>simp [bW]at hf
   | yield h1=>exact⟨_,U,_,S,_,w,hk,rfl,.inl rfl,.yield h1,h,.refl U w⟩
  ·rename_i s t x1
   generalize hg:a.eval _=v' at hx ⊢;cases hx with
   | flat hf=>simp [bW]at hf
   | LC h1=>
    cases h1 with
    | flat hf=>simp [bW]at hf
    | iface h2=>
     split at hk
     ·rename_i g hm
      exact⟨_,U,_,S,_,w,hk,NO hm _ w,.inl rfl,.LC (.iface h2),h,.refl U w⟩
     ·cases hk
  ·rename_i t x1
   generalize hg:a.eval _=v' at hx ⊢;cases hx with
   | flat hf=>simp [bW]at hf
   | iface h1=>exact⟨_,U,_,S,_,w,hk,rfl,.inl rfl,.iface h1,h,.refl U w⟩
  ·cases hk
 ·obtain⟨x,hk,hx⟩:=aT h hA hk
  obtain⟨y,hk,hy⟩:=aT h hA hk;obtain⟨v,hk,hf,hr⟩:=Pm hk hx hy;exact Out.here h hk (.flat hf) (hr _ _ w)
 ·obtain⟨x,hk,hx⟩:=aT h hA hk
  obtain⟨v,hk,hf,hr⟩:=Vs (P:=E.P) hk hx;exact Out.here h hk (.flat hf) (hr w)
 ·obtain⟨x,hk,hx⟩:=aT h hA hk
  exact Out.new (aA7 h hk hx)
 ·obtain⟨x,hk,hx⟩:=aT h hA hk
  split at hk
  ·cases hk
  ·rename_i d hd hu
   refine Out.here h hk (.iface hx) ?_;simp only [Instr.makeInterface,cR,run_underlying hu,eL];cases d<;>first | rfl | exact aX hu (hd _)
  ·cases hk
 ·split at hk
  ·obtain⟨x,hk,hx⟩:=BV h hA hk
   obtain⟨y,hk,hy⟩:=BV h hA hk;have hx:=hx.map_toArray;have hy:=hy.map_toArray;exact Out.here h hk (.func hx.1 hy.1 hx.2 hy.2) rfl
  ·split at hk
   ·rename_i x ZU hx2
    obtain⟨v,hk,hv⟩:=aT h hA hk;have e1:=jF.1 (show _=(⟨[x]⟩:Array Operand).toList from ZU);have e2:=jF.1 (show _=(⟨[]⟩:Array Operand).toList from hx2);subst e1 e2;exact Out.here h hk (.LC hv) (by simp [Instr.makeFunc])
   ·cases hk
  ·cases hk
 ·exact Out.new (WM h hk)
 ·obtain⟨x,hk,hx⟩:=aT h hA hk
  exact Out.new (Pg h hx hk)
 ·obtain⟨x,hk,hx⟩:=aT h hA hk
  exact Out.new (Tw h hk hx)
 ·obtain⟨x,hk,hx⟩:=aT h hA hk
  split at hk
  ·cases hk
  ·obtain⟨v,S',v',w',h1,h2,h3,h4,h5⟩:=aBd (ty:=o.type) h hk hx
   exact Out.new ⟨U,v,S',v',w',h1,h2,h3,h4,h5⟩
 ·obtain⟨x,hk,hx⟩:=aT h hA hk
  obtain⟨v,v',hk,hv,hr⟩:=Yk h hk hx;exact Out.here h hk hv hr
 ·rename_i x xT as ok
  obtain⟨v,hk,hv⟩:=aT h hA hk;split at hk
  ·cases hk
  ·rename_i t u d hni hd
   generalize a.eval x=v' at hv ⊢;cases hv with
   | flat hf=>simp [bW]at hf
   | iface hu=>
    cases hb:Nat.beq t as with
    | false=>rw [hb]at hk;cases ok<;>cases hk
    | true=>
     rw [hb]at hk;have e:=dI hb;cases ok with
     | true=>exact Out.here h hk (.pZ (.cons hu (.cons (.flat rfl) (.nil U)))) (WN hd (fun ms e=>hni ms e) e)
     | false=>exact Out.here h hk hu (WN hd (fun ms e=>hni ms e) e)
  ·cases hk
 ·obtain⟨x,hk,hx⟩:=aT h hA hk
  obtain⟨y,hk,hy⟩:=aT h hA hk;exact Out.new (Ig h hk hx hy)
 ·rename_i t x lo hi mx
  have hmh:mx.map a.eval=none\/hi.map a.eval≠none:=by
   cases mx with
   | none=>exact .inl rfl
   | some m=>cases hi with
    | none=>exact aX hk (by simp)
    | some _=>exact .inr (by simp)
  replace hk:(wA A x fun x=>Cj A lo fun lo=>Cj A hi fun hi=>Cj A mx fun mx=>vI E.P t x lo hi mx S fun v=>K v S)=true:=by
   cases mx<;>cases hi<;>first | exact hk | cases hk
  obtain⟨x,hk,hx⟩:=aT h hA hk;obtain⟨lo,hk,hlo⟩:=GD h hA hk;obtain⟨hi,hk,hhi⟩:=GD h hA hk;obtain⟨mx,hk,hmx⟩:=GD h hA hk
  have hO:∀(x:Option Operand) (v:Option Value),(v=none/\x=none\/∃u y,v=some u/\x=some y/\VR U u (a.eval y))->Lq U v (x.map a.eval):=by
   intro x v hv;rcases hv with ⟨rfl,rfl⟩ | ⟨u,y,rfl,rfl,hr⟩
   ·exact .inl ⟨rfl,rfl⟩
   ·exact .inr ⟨u,_,rfl,rfl,hr⟩
  obtain⟨v,v',hk,hv,hr⟩:=El h hk hx (hO _ _ hlo) (hO _ _ hhi) (hO _ _ hmx) hmh;exact Out.here h hk hv (hr w)
 ·obtain⟨x,hk,hx⟩:=aT h hA hk
  obtain⟨v,v',hk,hv,hr⟩:=PW hk hx;exact Out.here h hk hv (hr w)
 ·obtain⟨x,hk,hx⟩:=aT h hA hk
  obtain⟨v,v',hk,hv,hr⟩:=Ec hk hx;exact Out.here h hk hv (hr w)
 ·obtain⟨x,hk,hx⟩:=aT h hA hk
  obtain⟨y,hk,hy⟩:=aT h hA hk;obtain⟨v,v',hk,hv,hr⟩:=PV hk hx hy;exact Out.here h hk hv (hr w)
 ·obtain⟨x,hk,hx⟩:=aT h hA hk
  obtain⟨y,hk,hy⟩:=aT h hA hk;obtain⟨v,v',hk,hv,hr⟩:=Ed hk hx hy;exact Out.here h hk hv (hr w)
 ·obtain⟨x,hk,hx⟩:=aT h hA hk
  obtain⟨y,hk,hy⟩:=aT h hA hk;obtain⟨v,v',hk,hv,hr⟩:=An h hk hx hy;exact Out.here h hk hv hr
 ·obtain⟨x,hk,hx⟩:=aT h hA hk
  obtain⟨y,hk,hy⟩:=aT h hA hk;obtain⟨z,hk,hz⟩:=aT h hA hk;exact Out.unit (QA h hk hx hy hz)
 ·obtain⟨x,hk,hx⟩:=aT h hA hk
  obtain⟨y,hk,hy⟩:=aT h hA hk;obtain⟨z,hk,hz⟩:=aT h hA hk;exact Out.unit (QA h hk hx hy hz)
 ·obtain⟨x,hk,hx⟩:=aT h hA hk
  obtain⟨y,hk,hy⟩:=aT h hA hk;obtain⟨v,S',v',w',hk,hv,r1,r2,hr⟩:=Lp h hk hx hy;exact Out.new ⟨U,v,S',v',w',hk,hr,hv,r1,r2⟩
 ·obtain⟨x,hk,hx⟩:=aT h hA hk
  obtain⟨y,hk,hy⟩:=aT h hA hk;obtain⟨z,hk,hz⟩:=aT h hA hk;exact Out.unit (Eh h hk hx hy hz)
 ·rename_i tt ix
  obtain⟨x,hk,hx⟩:=aT h hA hk;split at hk
  ·obtain⟨vs',e,hl⟩:=hx.QB
   obtain⟨v,hv,hk⟩:=PX hk;obtain⟨v',PY,hr⟩:=hl.get hv;refine Out.here h hk hr ?_;rw [e];have:vs'[ix]? =some v':=by simpa using PY
   simp [Instr.extract,this]
  ·cases hk
 ·rename_i c
  obtain⟨b,hb⟩:=hq c Pl;unfold nF at hk;obtain⟨args,hk,TZ⟩:=BV h hA hk;rw [hb]at hk;simp only at hk;have:=Pk (ty:=o.type) (cs:=c.args.map fun | .const _=>true | _=>false) h hk TZ;have e:(⟨c.args.toList.map a.eval⟩:Array Value)=c.args.map a.eval:=by apply jF.1;simp
  rw [e]at this
  have e2:(do let d<-resolve a.eval c o.type;invoke d.target d.args:Sem Next)=builtin b c.argTypes o.type (c.args.map fun | .const _=>true | _=>false) (c.args.map a.eval):=by
   unfold resolve;rw [hb];rfl
  rw [e2];exact this
 ·cases hk
end
end Go.Am
