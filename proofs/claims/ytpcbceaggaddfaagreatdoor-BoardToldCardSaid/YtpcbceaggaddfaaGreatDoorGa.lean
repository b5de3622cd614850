/- AM, an abstract machine for the model's code: its state, its operations, its evaluator: plain definitions, no theorem about any program. -/
import Derived.OrdersIn
import Derived.RangeFuncIn
import Derived.RangeFuncLeaves
import Derived.Below
import GoSem.Dispatch
import Derived.RangeFuncRecord
import Derived.Laws.StructEq
import Derived.Laws.MakeOwn
import Derived.MapKept
import Derived.Laws.IdiomStrings
import Derived.Laws.BytesArg
import Derived.Maps.RangeRun
import Derived.Laws.AppendOwn

noncomputable section
set_option maxRecDepth 100000
set_option linter.unusedVariables false
namespace Go.Am
abbrev aS:= @List.getElem?_eq_getElem
abbrev bE:= @Nat.le_of_ble_eq_true
abbrev cZ:= @List.getElem?_eq_some_iff
abbrev eY:= @Nat.exists_eq_succ_of_ne_zero
abbrev cV:= @Nat.eq_of_beq_eq_true
abbrev bW:= @List.length_append
abbrev bM:= @decide_eq_false
abbrev cJ:= @Bool.false_eq_true
abbrev bT:= @Bool.and_eq_true
abbrev fQ:= @List.getElem?_append_left
abbrev bK:= @decide_eq_true
abbrev iO:= @List.getElem?_append_right
abbrev dK:= @Result.andThen_ok
abbrev lZ:= @List.eq_nil_of_length_eq_zero
abbrev dL:= @List.all_eq_true
abbrev bN:= @Nat.le_refl
abbrev bY:= @Sem.run_bind
abbrev dU:= @List.mem_filter
abbrev cO:= @List.mem_cons
abbrev iW:= @Nat.ble_eq_true_of_le
abbrev mN:= @Array.getElem?_eq_some_iff
abbrev jZ:= @Int.ofNat_eq_natCast
abbrev fD:= @Bool.not_false
abbrev gW:= @Array.toList_inj
abbrev kI:= @List.getElem?_drop
abbrev fJ:= @Bool.not_true
abbrev iX:= @List.length_take
abbrev kZ:= @List.getElem?_take
abbrev lA:= @List.getElem?_map
abbrev fK:= @Nat.zero_add
abbrev oQ:= @Nat.mul_le_mul_right
abbrev mO:= @List.length_drop
abbrev nT:= @Nat.lt_succ_of_lt
abbrev rB:= @List.mem_of_getElem?
abbrev uG:= @List.take_of_length_le
abbrev iY:= @Sem.run_pure
abbrev rC:= @List.pairwise_cons
abbrev oR:= @List.mem_append
abbrev BB:= @List.drop_eq_getElem_cons
abbrev pL:= @Bool.eq_iff_iff
abbrev kJ:= @Nat.add_mul
abbrev mA:= @List.mem_map
abbrev rZ:= @List.length_cons
abbrev dV:= @Ne.symm
abbrev uH:= @List.ext_getElem?
abbrev uI:= @Bool.not_eq_true'
abbrev sW:= @List.getElem_mem
abbrev mP:= @Nat.zero_le
abbrev wN:= @List.mem_singleton
abbrev ID:= @List.getD_eq_getElem?_getD
abbrev vI:= @Nat.lt_succ_self
abbrev DC:= @List.getElem?_eq_none
abbrev vJ:= @List.append_nil
abbrev BC:= @Nat.lt_of_lt_of_le
abbrev rD:= @Nat.le_trans
abbrev sX:= @Nat.add_assoc
abbrev wO:= @Option.map_some
abbrev kA:= @congrArg
abbrev BD:= @of_decide_eq_true
abbrev IE:= @List.take_append_drop
abbrev GD:= @Nat.add_eq_zero_iff
abbrev PU:= @Array.toList_setIfInBounds
abbrev KQ:= @List.getElem?_cons_succ
abbrev vK:= @List.map_cons
abbrev sA:= @Nat.mul_one
abbrev IF:= @List.getElem?_of_mem
abbrev KT:= @Nat.ne_of_beq_eq_false
abbrev GE:= @List.take_add_one
abbrev IG:= @Nat.eq_zero_or_pos
abbrev DD:= @List.length_map
abbrev VG:= @Array.getElem?_eq_getElem
abbrev KU:= @List.getElem_of_mem
abbrev VH:= @Option.isSome_iff_exists
abbrev DE:= @List.drop_zero
abbrev GF:= @Nat.one_ne_zero
abbrev yL:= @Nat.lt_or_ge
abbrev KW:= @of_decide_eq_false
abbrev PV:= @List.getElem?_set_ne
abbrev VI:= @decide_eq_false_iff_not
abbrev Kj:= @List.findIdx?_eq_some_iff_getElem
abbrev KX:= @List.append_assoc
abbrev PW:= @Array.getElem?_push
abbrev Cd:= @List.mem_of_find?_eq_some
abbrev VJ:= @List.length_filter_le
abbrev KY:= @List.any_eq_true
abbrev IH:= @List.drop_drop
abbrev Ce:= @List.getElem?_cons_zero
abbrev KZ:= @Bool.or_eq_true
abbrev GG:= @Nat.zero_mul
abbrev Kk:= @Array.getD_eq_getD_getElem?
abbrev PX:= @List.mem_reverse
abbrev VL:= @List.find?_eq_none
abbrev VM:= @Array.ext_getElem?
abbrev LA:= @List.mem_range
abbrev VN:= @Option.isSome_some
abbrev Cf:= @Array.getElem?_toList
abbrev Kl:= @Option.isNone_iff_eq_none
abbrev Km:= @List.pairwise_iff_getElem
abbrev PY:= @List.foldl_cons
abbrev PZ:= @List.length_nil
abbrev QA:= @List.nil_append
abbrev QB:= @List.find?_some
abbrev QC:= @List.nodup_cons
abbrev II:= @Nat.add_zero
abbrev IJ:= @Nat.beq_refl
abbrev VO:= @List.flatMap_cons
abbrev VP:= @List.flatten_cons
abbrev Wq:= @Array.getElem?_setIfInBounds_ne
abbrev Cg:= @List.getElem?_range
abbrev VQ:= @List.take_length
abbrev VT:= @List.filter_cons
abbrev VU:= @Option.bind_some
abbrev Ws:= @Array.eq_empty_of_size_eq_zero
abbrev Ci:= @Option.isSome_none
abbrev Ko:= @List.drop_of_length_le
abbrev Cj:= @List.filter_append
abbrev Wt:= @Array.getElem?_setIfInBounds
abbrev QD:= @Bool.true_and
abbrev Kp:= @List.getElem?_toArray
abbrev Kq:= @List.contains_iff_mem
abbrev Ck:= @List.getElem?_set
abbrev Kr:= @List.mem_of_mem_drop
abbrev VV:= @List.mapM_cons
abbrev Ks:= @List.takeWhile_cons
abbrev Kt:= @List.replicate_succ
abbrev Ku:= @List.filter_eq_self
abbrev VW:= @List.all_cons
abbrev VX:= @Int.ofNat.inj
abbrev Wu:= @Array.size_setIfInBounds
abbrev Wv:= @Nat.add_sub_cancel_left
abbrev aDI:= @List.set_eq_take_append_cons_drop
abbrev Cl:= @Bool.false_and
abbrev Kw:= @List.any_eq_false
abbrev Ww:= @Array.getElem?_eq_none
abbrev aDJ:= @List.exists_of_findSome?_eq_some
abbrev Wx:= @Array.getElem?_modify
abbrev Wy:= @List.mem_append_right
abbrev Kx:= @List.foldlM_cons
abbrev Ky:= @List.mem_flatMap
abbrev Wz:= @Array.toList_extract
abbrev VY:= @Nat.le_succ
abbrev VZ:= @Nat.sub_mul
abbrev Xa:= @List.mem_cons_of_mem
abbrev Xb:= @List.mem_append_left
abbrev Xc:= @Bool.or_eq_false_iff
abbrev Xd:= @Array.toArray_toList
abbrev Kz:= @Int.emod_nonneg
abbrev La:= @List.filter_nil
abbrev Lb:= @Array.size_push
abbrev Xe:= @Array.toList_modify
abbrev Xf:= @List.flatMap_append
abbrev Cm:= @Nat.le_of_eq
abbrev Xg:= @Array.foldl_toList
abbrev WA:= @Nat.beq_eq
abbrev Cn:= @Int.le_refl
abbrev Lc:= @List.any_cons
abbrev zI:Value:= .int .i64 (.ofNat 0)
abbrev zS:Value:= .string ⟨⟨[]⟩⟩
abbrev zL:Value:= .slice none 0 0
abbrev zF:Value:= .bool false
inductive Tr (α:Type)where
 | leaf
 | node (v:Option α) (l r:Tr α)
namespace Tr
variable{α:Type}
def get:Tr α->Nat->Option α
 | leaf,_=>none
 | node v l r,n=>if n=0 then v else if n%2=1 then l.get (n / 2)else r.get (n / 2-1)
def CA (x:α):Nat->Tr α->Nat->Tr α
 | 0,t,_=>t
 | f+1,leaf,n=>if n=0 then node (some x) leaf leaf else if n%2=1 then node none (CA x f leaf (n / 2)) leaf else node none leaf (CA x f leaf (n / 2-1))
 | f+1,node v l r,n=>if n=0 then node (some x) l r else if n%2=1 then node v (CA x f l (n / 2)) r else node v l (CA x f r (n / 2-1))
def put (t:Tr α) (n:Nat) (x:α):Tr α:=CA x (n+1) t n
end Tr
section
variable{α:Type}{β:Type}
def nU (n:Nat) (z:β) (s:Nat->β):β:=Nat.rec (motive:=fun _=>β) z (fun p _=>s p) n
def dF (b:Bool) (t f:β):β:=Bool.rec (motive:=fun _=>β) f t b
def aL8 (o:Option α) (z:β) (s:α->β):β:=Option.rec (motive:=fun _=>β) z s o
def aI5 (n:Int) (z:Nat->β) (s:Nat->β):β:=Int.rec (motive:=fun _=>β) z s n
def Co (l:List α) (z:β) (s:α->List α->β):β:=List.rec (motive:=fun _=>β) z (fun a t _=>s a t) l
def IK (z:β) (s:Nat->β->β) (n:Nat):β:=Nat.rec (motive:=fun _=>β) z s n
def fE (z:β) (s:α->List α->β->β) (l:List α):β:=List.rec (motive:=fun _=>β) z s l
def aL9 (z:β) (s:Option α->Tr α->Tr α->β->β->β) (t:Tr α):β:=Tr.rec (motive:=fun _=>β) z s t
def aAP (t:Tr α) (z:β) (s:Option α->Tr α->Tr α->β):β:=Tr.rec (motive:=fun _=>β) z (fun v l r _ _=>s v l r) t
def aMa (skip:β) (region:Array Oper->Bool->β) (seq:β->β->β) (cond:Operand->β->β->β) (block:Nat->β->β) (loop scope:β->β)
 (range:Operand->Array Tmp->Code->Code->β) (exit:Nat->β) (label ret bad:β) (c:Code):β:=
 Code.rec (motive:=fun _=>β) skip (fun _ ops draw=>region ops draw) (fun _ _ a b=>seq a b) (fun c _ _ a b=>cond c a b) (fun id _ h=>block id h) (fun _ h=>loop h)
  (fun f ps a b _ _=>range f ps a b) exit (fun _ h=>scope h) (fun _=>label) (fun _=>bad) ret (fun _=>bad) c
end
def nV{α:Type} (t:Tr α) (n:Nat) (k:α->Bool):Bool:=
 aL9 (β:=Nat->Bool) (fun _=>false) (fun v _ _ gl gr n=>nU n (aL8 v false k) fun p=>nU (Nat.mod p 2) (gl (Nat.div p 2)) fun _=>gr (Nat.div p 2)) t n
def OJ{α:Type} (x:α) (f:Nat):Tr α->Nat->(Tr α->Bool)->Bool:=
 IK (β:=Tr α->Nat->(Tr α->Bool)->Bool) (fun t _ k=>k t)
  (fun _ ih t n k=>aAP t
   (nU n (k (.node (some x) .leaf .leaf)) fun p=>nU (Nat.mod p 2) (ih .leaf (Nat.div p 2) fun c=>k (.node none c .leaf)) fun _=>ih .leaf (Nat.div p 2) fun c=>k (.node none .leaf c))
   (fun v l r=>nU n (k (.node (some x) l r)) fun p=>nU (Nat.mod p 2) (ih l (Nat.div p 2) fun c=>k (.node v c r)) fun _=>ih r (Nat.div p 2) fun c=>k (.node v l c))) f
def cG (n:Nat) (k:Nat->Bool):Bool:=nU n (k 0) fun p=>k (Nat.succ p)
def wP (n:Int) (k:Int->Bool):Bool:=aI5 n (fun m=>cG m fun m=>k (.ofNat m)) (fun m=>cG m fun m=>k (.negSucc m))
def QE (b:Bool) (k:Bool->Bool):Bool:=dF b (k true) (k false)
def OK{α:Type} (l:List α) (i:Nat) (k:α->Bool):Bool:=
 fE (β:=Nat->Bool) (fun _=>false) (fun a _ ih i=>nU i (k a) fun p=>ih p) l i
def aAQ{α:Type} (v:α) (l:List α) (i:Nat) (k:List α->Bool):Bool:=
 fE (β:=Nat->(List α->Bool)->Bool) (fun _ k=>k []) (fun a t ih i k=>nU i (k (v::t)) fun p=>ih p fun t'=>k (a::t')) l i k
def aGS{α:Type} (l:List α) (k:List α->Bool):Bool:=
 fE (β:=(List α->Bool)->Bool) (fun k=>k []) (fun a _ ih k=>ih fun t=>k (a::t)) l k
def wQ{α:Type} (l m:List α) (k:List α->Bool):Bool:=
 fE (β:=(List α->Bool)->Bool) (fun k=>k m) (fun a _ ih k=>ih fun t=>k (a::t)) l k
def LB{α:Type} (n:Nat) (l:List α) (k:List α->Bool):Bool:=
 IK (β:=List α->(List α->Bool)->Bool) (fun _ k=>k []) (fun _ ih l k=>Co l false fun a t=>ih t fun t'=>k (a::t')) n l k
def FB{α:Type} (n:Nat) (l:List α) (k:List α->Bool):Bool:=
 IK (β:=List α->Bool) (fun l=>k l) (fun _ ih l=>Co l false fun _ t=>ih t) n l
def Qc{α:Type} (new:List α) (l:List α) (k:List α->Bool):Bool:=
 fE (β:=List α->(List α->Bool)->Bool) (fun l k=>k l) (fun a _ ih l k=>Co l false fun _ t=>ih t fun t'=>k (a::t')) new l k
def qA{α:Type} (off:Nat) (new l:List α) (k:List α->Bool):Bool:=
 IK (β:=List α->(List α->Bool)->Bool) (fun l k=>Qc new l k) (fun _ ih l k=>Co l false fun a t=>ih t fun t'=>k (a::t')) off l k
def zZ{α:Type} (l:List α) (k:Nat->Bool):Bool:=
 fE (β:=Nat->Bool) (fun n=>k n) (fun _ _ ih n=>cG (Nat.succ n) ih) l 0
def Qd{α:Type} (z:List α) (n:Nat) (k:List α->Bool):Bool:=
 IK (β:=List α->Bool) (fun acc=>k acc) (fun _ ih acc=>wQ z acc ih) n []
inductive CK where
 | exact
 | grown (olds:List Nat)
 | qV
 | ro
 | rs
structure Tm where
 t:Tr Value
 n:Nat
def NO (T:Tm) (i:Nat) (k:Value->Bool):Bool:=nV T.t i k
def qW (v:Value) (T:Tm) (i:Nat) (k:Tm->Bool):Bool:=
 match Nat.blt i T.n with
 | true=>OJ v (Nat.succ i) T.t i fun t=>k ⟨t,T.n⟩
 | false=>false
def aAR (n:Nat) (args:List Value) (k:Tm->Bool):Bool:=
 fE (β:=Nat->Tm->Bool) (fun _ T=>k T) (fun a _ ih i T=>qW a T i fun T=>cG (Nat.succ i) fun i=>ih i T) args 0 ⟨.leaf,n⟩
inductive gV where
 | dead
 | cells (vs:List Value) (elem:TypeId) (k:CK)
 | map (es:List MapEntry) (clock:Nat)
 | loop (tmps:Tm) (params:List Tmp) (assign body:Code) (state:LoopState) (pending:Option Code)
 | defers
 | iter (m:Option Nat) (since:Nat) (seen:List Nat) (last:Nat)
structure St where
 h:Tr gV
 n:Nat
inductive uB where
 | normal
 | exit (id:Nat)
 | ret
structure aM where
 tmps:Tm
 marks:List Nat
 g:Nat
abbrev VK:=Value->St->Bool
abbrev aAS:=FuncId->List Value->St->VK->Bool
def bA:Value->Bool
 | .bool _ | .int .. | .string _ | .nilFunc | .nilIface | .pointer none | .slice none _ _ | .map none=>true
 | _=>false
def BR (qR bytes:Nat):Bool:=match Nat.ble (qR*bytes) 140737488355328 with | true=>Nat.ble qR 140737488355328 | false=>false
theorem LC{qR bytes:Nat} (h:qR*bytes<=140737488355328/\qR<=140737488355328):BR qR bytes=true:=by
 unfold BR;rw [iW h.1];exact iW h.2
theorem Qe{qR bytes:Nat} (h:BR qR bytes=true):qR*bytes<=140737488355328/\qR<=140737488355328:=by
 unfold BR at h;cases hb:Nat.ble (qR*bytes) 140737488355328 with
 | false=>rw [hb]at h;cases h
 | true=>rw [hb]at h;exact⟨bE hb,bE h⟩
def fR:Value->Bool
 | .agg _ | .tuple _=>false
 | _=>true
def pW{α:Type} (f:α->Bool) (l:List α):Bool:=fE (β:=Bool) true (fun a _ ih=>dF (f a) ih false) l
def iZ:Value->Bool
 | .agg cs=>cs.toList.all bA
 | v=>bA v
def rQ (A:aM) (x:Operand) (k:Value->Bool):Bool:=
 match x with
 | .tmp t=>NO A.tmps t k
 | .const v=>match iZ v with | true=>k v | false=>false
 | .global g=>match Nat.blt g A.g with | true=>k (.pointer (some ⟨g,0,none⟩)) | false=>false
 | .func f=>k (.func (.func f) #[] #[])
def LD (A:aM) (xs:List Operand) (k:List Value->Bool):Bool:=
 fE (β:=(List Value->Bool)->Bool) (fun k=>k []) (fun x _ ih k=>rQ A x fun v=>ih fun vs=>k (v::vs)) xs k
def lE (A:aM) (d:Option Tmp) (v:Value) (k:aM->Bool):Bool:=
 match d with
 | some d=>qW v A.tmps d fun ts=>k ⟨ts,A.marks,A.g⟩
 | none=>k A
def sP (S:St) (o:gV) (k:Nat->St->Bool):Bool:=
 OJ o (Nat.succ S.n) S.h S.n fun h=>cG (Nat.succ S.n) fun n=>k S.n ⟨h,n⟩
def pX (S:St) (i:Nat) (o:gV) (k:St->Bool):Bool:=OJ o (Nat.succ i) S.h i fun h=>k ⟨h,S.n⟩
def uJ (S:St) (i:Nat) (k:List Value->TypeId->CK->Bool):Bool:=
 nV S.h i fun o=>match o with | .cells vs e c=>k vs e c | _=>false
def BS (S:St) (i off n:Nat) (k:List Value->Bool):Bool:=uJ S i fun vs _ _=>FB off vs fun l=>LB n l k
def Ii (l:List Nat) (h:Tr gV) (k:Tr gV->Bool):Bool:=
 fE (β:=Tr gV->(Tr gV->Bool)->Bool) (fun h k=>k h) (fun i _ ih h k=>OJ .dead (Nat.succ i) h i fun h=>ih h k) l h k
def Au:Int->Int->Bool
 | .ofNat a,.ofNat b=>Nat.beq a b
 | .negSucc a,.negSucc b=>Nat.beq a b
 | _,_=>false
def yM:IntKind->IntKind->Bool
 | .i8,.i8 | .i16,.i16 | .i32,.i32 | .i64,.i64 | .u8,.u8 | .u16,.u16 | .u32,.u32 | .u64,.u64=>true
 | _,_=>false
def WB (new:List Value):List Value->Bool:=
 fE (β:=List Value->Bool) (fun _=>true) (fun a _ ih l=>Co l false fun b t=>match a,b with
  | .int j x,.int k y=>match yM j k with
   | true=>match Au x y with | true=>ih t | false=>false
   | false=>false
  | _,_=>false) new
def oS (S:St) (i off:Nat) (new:List Value) (k:St->Bool):Bool:=
 uJ S i fun vs e c=>
  match c with
  | .exact=>qA off new vs fun vs=>pX S i (.cells vs e .exact) k
  | .grown olds=>FB off vs fun l=>match WB new l with
   | true=>k S
   | false=>qA off new vs fun vs=>Ii olds S.h fun h=>OJ (.cells vs e (.grown [])) (Nat.succ i) h i fun h=>k ⟨h,S.n⟩
  | .rs=>FB off vs fun l=>match WB new l with | true=>k S | false=>false
  | _=>false
def Hf:Int->Int->Bool
 | .ofNat a,.ofNat b=>Nat.blt a b
 | .ofNat _,.negSucc _=>false
 | .negSucc _,.ofNat _=>true
 | .negSucc a,.negSucc b=>Nat.blt b a
def dW (k:IntKind) (n:Int):Int:=
 match k,n with
 | .i64,.ofNat m=>match Nat.blt m 9223372036854775808 with | true=> .ofNat m | false=>k.wrap n
 | .i64,.negSucc m=>match Nat.blt m 9223372036854775808 with | true=> .negSucc m | false=>k.wrap n
 | .u64,.ofNat m=>match Nat.blt m 18446744073709551616 with | true=> .ofNat m | false=>k.wrap n
 | .u8,.ofNat m=>match Nat.blt m 256 with | true=> .ofNat m | false=>k.wrap n
 | k,n=>k.wrap n
def GH (k:IntKind) (n:Int) (K:Value->Bool):Bool:=wP (dW k n) fun n=>K (.int k n)
def mX (b:Bool) (K:Value->Bool):Bool:=QE b fun b=>K (.bool b)
def IL (op:BinOp) (k:IntKind) (x y:Int) (K:Value->Bool):Bool:=
 match op with
 | .add=>GH k (Int.add x y) K
 | .sub=>GH k (Int.sub x y) K
 | .mul=>GH k (Int.mul x y) K
 | .quo=>match Au y 0 with | true=>false | false=>GH k (Int.tdiv x y) K
 | .rem=>match Au y 0 with | true=>false | false=>wP (Int.tmod x y) fun n=>K (.int k n)
 | .and=>wP (k.wrap (BitVec.ofInt k.bits x &&& BitVec.ofInt k.bits y).toNat) fun n=>K (.int k n)
 | .or=>wP (k.wrap (BitVec.ofInt k.bits x ||| BitVec.ofInt k.bits y).toNat) fun n=>K (.int k n)
 | .xor=>wP (k.wrap (BitVec.ofInt k.bits x ^^^ BitVec.ofInt k.bits y).toNat) fun n=>K (.int k n)
 | .andNot=>wP (k.wrap (BitVec.ofInt k.bits x &&& ~~~ BitVec.ofInt k.bits y).toNat) fun n=>K (.int k n)
 | .eql=>mX (Au x y) K
 | .neq=>mX (!Au x y) K
 | .lss=>mX (Hf x y) K
 | .leq=>mX (!Hf y x) K
 | .gtr=>mX (Hf y x) K
 | .geq=>mX (!Hf x y) K
 | _=>false
def QF (op:BinOp) (k:IntKind) (x y:Int) (K:Value->Bool):Bool:=
 match Hf y 0 with
 | true=>false
 | false=>
  match op with
  | .shl=>GH k (x*2 ^ (min y.toNat k.bits)) K
  | .shr=>wP (x.fdiv (2 ^ (min y.toNat k.bits))) fun n=>K (.int k n)
  | _=>false
def ZW (a b:List UInt8):Bool:=
 fE (β:=List UInt8->Bool) (fun b=>match b with | []=>true | _=>false)
  (fun x _ ih b=>match b with | []=>false | y::b=>match Nat.beq x.toNat y.toNat with | true=>ih b | false=>false) a b
def aBZ (a b:List UInt8):Bool:=
 fE (β:=List UInt8->Bool) (fun b=>match b with | []=>false | _=>true)
  (fun x _ ih b=>match b with | []=>false | y::b=>match Nat.blt x.toNat y.toNat with | true=>true | false=>match Nat.beq x.toNat y.toNat with | true=>ih b | false=>false) a b
def Ld (op:BinOp) (a b:ByteArray) (K:Value->Bool):Bool:=
 match op with
 | .add=>zZ a.data.toList fun n=>zZ b.data.toList fun m=>match Nat.blt (n+m) 9223372036854775808 with
  | true=>wQ a.data.toList b.data.toList fun l=>K (.string ⟨⟨l⟩⟩)
  | false=>false
 | .eql=>mX (ZW a.data.toList b.data.toList) K
 | .neq=>mX (!ZW a.data.toList b.data.toList) K
 | .lss=>mX (aBZ a.data.toList b.data.toList) K
 | .leq=>mX (aBZ a.data.toList b.data.toList || ZW a.data.toList b.data.toList) K
 | .gtr=>mX (!(aBZ a.data.toList b.data.toList || ZW a.data.toList b.data.toList)) K
 | .geq=>mX (!aBZ a.data.toList b.data.toList) K
 | _=>false
section
variable (P:Program)
def sY (t:TypeId):Option Bool:=(P.underlying t).map fun | .struct _ | .array _ _=>true | _=>false
def bP (t:TypeId):Option Nat:=(P.info? t).map (·.size)
def sH (t:TypeId):Option (List Value):=((P.info? t).bind (·.zero)).map (·.cells.toList)
def GQ (t:TypeId) (a:Value) (S:St) (K:VK):Bool:=
 match a with
 | .pointer (some ⟨i,o,none⟩)=>
  match sY P t with
  | some false=>uJ S i fun vs _ _=>OK vs o fun v=>K v S
  | some true=>match bP P t with
   | some n=>BS S i o n fun l=>K (.agg ⟨l⟩) S
   | none=>false
  | none=>false
 | _=>false
def nW (v:Value) (k:List Value->Bool):Bool:=
 match v with
 | .agg cs=>match pW fR cs.toList with | true=>k cs.toList | false=>false
 | .tuple _=>false
 | v=>k [v]
def QG (t:TypeId) (a x:Value) (S:St) (k:St->Bool):Bool:=
 match a with
 | .pointer (some ⟨i,o,none⟩)=>
  match bP P t with
  | some n=>nW x fun cs=>zZ cs fun m=>match Nat.beq m n with
   | true=>oS S i o cs k
   | false=>false
  | none=>false
 | _=>false
def aB0 (d:Nat) (x:Option Value) (k:Nat->Bool):Bool:=
 match x with
 | none=>k d
 | some (.int _ (.ofNat n))=>k n
 | _=>false
def IM (len cap:Nat) (lo hi mx:Option Value) (k:Nat->Nat->Nat->Bool):Bool:=
 aB0 cap mx fun m=>aB0 len hi fun h=>aB0 0 lo fun l=>
  match Nat.ble l h,Nat.ble h m,Nat.ble m cap with
  | true,true,true=>k l h m
  | _,_,_=>false
def isSlice (t:TypeId):Option TypeId:=match P.underlying t with | some (.slice e)=>some e | _=>none
def rE (t:TypeId) (x:Value) (lo hi mx:Option Value) (S:St) (K:Value->Bool):Bool:=
 match x with
 | .string s=>
  match P.underlying t,mx with
  | some .string,none=>zZ s.data.toList fun n=>IM n n lo hi none fun l h _=>LB h s.data.toList fun a=>FB l a fun b=>K (.string ⟨⟨b⟩⟩)
  | _,_=>false
 | .slice none len cap=>
  match isSlice P t with
  | some elem=>match bP P elem with
   | some _=>IM len cap lo hi mx fun l h m=>cG (h-l) fun n=>cG (m-l) fun c=>K (.slice none n c)
   | none=>false
  | none=>false
 | .slice (some ⟨i,o,sp⟩) len cap=>
  match isSlice P t with
  | some elem=>match bP P elem with
   | some size=>IM len cap lo hi mx fun l h m=>cG (h-l) fun n=>cG (m-l) fun c=>cG (o+l*size) fun o'=>
    match sp,mx with
    | none,_=>match Nat.beq m l with | true=>K (.slice (some ⟨i,o,none⟩) n c) | false=>K (.slice (some ⟨i,o',none⟩) n c)
    | some 0,some _=>match Nat.beq m l with | true=>K (.slice (some ⟨i,o,none⟩) n c) | false=>K (.slice (some ⟨i,o',none⟩) n c)
    | some 0,none=>match Nat.beq m l with
     | true=>K (.slice (some ⟨i,0,some 1⟩) 0 0)
     | false=>uJ S i fun _ e ck=>match ck,bP P e with
      | .exact,_=>false
      | _,some q=>match Nat.beq q size with | true=>K (.slice (some ⟨i,o',some 0⟩) n c) | false=>false
      | _,none=>false
    | some _,_=>K (.slice (some ⟨i,0,some 1⟩) 0 0)
   | none=>false
  | none=>false
 | .pointer (some ⟨i,o,none⟩)=>
  match P.underlying t with
  | some (.array len elem)=>match bP P elem with
   | some size=>IM len len lo hi mx fun l h m=>cG (h-l) fun n=>cG (m-l) fun c=>cG (o+l*size) fun o'=>
    match Nat.beq m l with | true=>K (.slice (some ⟨i,o,none⟩) n c) | false=>K (.slice (some ⟨i,o',none⟩) n c)
   | none=>false
  | _=>false
 | _=>false
def rF (t:TypeId) (x ix:Value) (K:Value->Bool):Bool:=
 match ix with
 | .int _ (.ofNat i)=>
  match x with
  | .slice (some ⟨b,o,sp⟩) len _=>
   match sp with
   | some (_+1)=>false
   | _=>match isSlice P t with
    | some elem=>match bP P elem,Nat.blt i len with
     | some size,true=>cG (o+i*size) fun o=>K (.pointer (some ⟨b,o,none⟩))
     | _,_=>false
    | none=>false
  | .pointer (some ⟨b,o,none⟩)=>
   match P.underlying t with
   | some (.array len elem)=>match bP P elem,Nat.blt i len with
    | some size,true=>cG (o+i*size) fun o=>K (.pointer (some ⟨b,o,none⟩))
    | _,_=>false
   | _=>false
  | _=>false
 | _=>false
def wR (s:TypeId) (f:Nat):Option Field:=match P.underlying s with | some (.struct fs)=>fs[f]? | _=>none
def yN (s:TypeId) (x:Value) (f:Nat) (K:Value->Bool):Bool:=
 match x with
 | .pointer (some ⟨b,o,none⟩)=>
  match wR P s f with
  | some fd=>match bP P fd.type with
   | some (_+1)=>cG (o+fd.offset) fun o=>K (.pointer (some ⟨b,o,none⟩))
   | _=>false
  | none=>false
 | _=>false
def Ij (t:TypeId) (cs:List Value) (off:Nat) (K:Value->Bool):Bool:=
 match sY P t with
 | some false=>OK cs off K
 | some true=>match bP P t with
  | some n=>FB off cs fun l=>LB n l fun l=>K (.agg ⟨l⟩)
  | none=>false
 | none=>false
def LE (t:TypeId) (x:Value) (f:Nat) (K:Value->Bool):Bool:=
 match x with
 | .agg cs=>match wR P t f with
  | some fd=>Ij P fd.type cs.toList fd.offset K
  | none=>false
 | _=>false
def WC (t:TypeId) (x ix:Value) (K:Value->Bool):Bool:=
 match ix with
 | .int _ (.ofNat i)=>
  match x with
  | .agg cs=>match P.underlying t with
   | some (.array len elem)=>match bP P elem,Nat.blt i len with
    | some size,true=>Ij P elem cs.toList (i*size) K
    | _,_=>false
   | _=>false
  | .string s=>match P.underlying t with
   | some .string=>OK s.data.toList i fun b=>cG b.toNat fun n=>K (.int .u8 (.ofNat n))
   | _=>false
  | _=>false
 | _=>false
def PA (place:Nat->Option (Nat×Nat)) (parts:List (Nat×Value)) (cells:List Value) (k:List Value->Bool):Bool:=
 fE (β:=List Value->Bool) (fun cs=>k cs)
  (fun p _ ih cs=>match place p.1 with
   | some (off,size)=>nW p.2 fun new=>zZ new fun m=>match Nat.beq m size with
    | true=>qA off new cs ih
    | false=>false
   | none=>false) parts cells
def BE (A:aM) (parts:List (Nat×Operand)) (k:List (Nat×Value)->Bool):Bool:=
 fE (β:=(List (Nat×Value)->Bool)->Bool) (fun k=>k []) (fun p _ ih k=>rQ A p.2 fun v=>ih fun l=>k ((p.1,v)::l)) parts k
def placesOf (fields:List Field):Option (List (Nat×Nat)):=fields.mapM fun f=>(bP P f.type).map fun s=>(f.offset,s)
def Cp (A:aM) (t:TypeId) (parts:List (Nat×Operand)) (K:Value->Bool):Bool:=
 match sH P t,P.underlying t with
 | some zero,some (.struct fields)=>match placesOf P fields.toList with
  | some pl=>match pW bA zero with
   | true=>BE A parts fun ps=>PA (pl[·]?) ps zero fun cs=>K (.agg ⟨cs⟩)
   | false=>false
  | none=>false
 | some zero,some (.array _ elem)=>match bP P elem with
  | some size=>match pW bA zero with
   | true=>BE A parts fun ps=>PA (fun i=>some (i*size,size)) ps zero fun cs=>K (.agg ⟨cs⟩)
   | false=>false
  | none=>false
 | _,_=>false
def vV (A:aM) (t:TypeId) (len:Nat) (parts:List (Nat×Operand)) (S:St) (K:VK):Bool:=
 match isSlice P t with
 | some elem=>match bP P elem,sH P elem with
  | some (size+1),some zero=>match Nat.ble (len*(size+1)) 16777216,Nat.beq zero.length (size+1)with
   | true,true=>match pW bA zero with
    | true=>Qd zero len fun cs=>BE A parts fun ps=>PA (fun i=>some (i*(size+1),size+1)) ps cs fun cs=>
     sP S (.cells cs elem .exact) fun i S=>K (.slice (some ⟨i,0,none⟩) len len) S
    | false=>false
   | _,_=>false
  | _,_=>false
 | none=>false
def LF (t:TypeId) (S:St) (K:VK):Bool:=
 match sH P t with
 | some zero=>match pW bA zero with
  | true=>aGS zero fun zero=>sP S (.cells zero t .exact) fun i S=>K (.pointer (some ⟨i,0,none⟩)) S
  | false=>false
 | none=>false
def Qf (t:TypeId) (v:Value) (S:St) (K:VK):Bool:=
 nW v fun cs=>sP S (.cells cs t .exact) fun i S=>K (.pointer (some ⟨i,0,none⟩)) S
def sZ (t:TypeId) (len cap:Value) (S:St) (K:VK):Bool:=
 match len,cap with
 | .int _ (.ofNat l),.int _ (.ofNat c)=>
  match isSlice P t with
  | some elem=>match P.info? elem,sH P elem with
   | some info,some zero=>match Nat.ble l c,Nat.ble (info.bytes*c) 1099511627776,Nat.ble c 1099511627776,Nat.beq zero.length info.size,info.size with
    | true,true,true,true,_+1=>match pW bA zero with
     | true=>match Nat.ble c 65536 with
      | true=>Qd zero c fun cs=>sP S (.cells cs elem .exact) fun i S=>K (.slice (some ⟨i,0,none⟩) l c) S
      | false=>sP S .dead fun i S=>K (.slice (some ⟨i,0,none⟩) l c) S
     | false=>false
    | _,_,_,_,_=>false
   | _,_=>false
  | none=>false
 | _,_=>false
def pM (t:TypeId):Bool:=match P.underlying t with | some (.int _) | some .string | some .bool=>true | _=>false
def sI (t:TypeId) (a b:Value) (k:Bool->Bool):Bool:=
 match P.underlying t with
 | some (.int _)=>match a,b with
  | .int j x,.int l y=>match yM j l with | true=>QE (Au x y) k | false=>false
  | _,_=>false
 | some .string=>match a,b with
  | .string x,.string y=>QE (ZW x.data.toList y.data.toList) k
  | _,_=>false
 | some .bool=>match a,b with
  | .bool x,.bool y=>QE (x==y) k
  | _,_=>false
 | _=>false
def GR (fs:List Field) (a b:List Value) (k:Bool->Bool):Bool:=
 fE (β:=List Value->List Value->Bool) (fun _ _=>k true)
  (fun f _ ih a b=>Co a false fun x a=>Co b false fun y b=>sI P f.type x y fun e=>match e with | true=>ih a b | false=>k false) fs a b
def tA:Nat->List Field->Bool
 | _,[]=>true
 | i,f::fs=>f.name != "_" &&f.offset==i&&pM P f.type&&tA (i+1) fs
def IN (t:TypeId):Option (List Field):=
 match P.underlying t with
 | some (.struct fs)=>if tA P 0 fs.toList&& !P.stoodInHeld t&& !P.eqGuardType P.depth t then some fs.toList else none
 | _=>none
def nX (t:TypeId) (a b:Value) (k:Bool->Bool):Bool:=
 match a,b with
 | .agg xs,.agg ys=>match IN P t with
  | some fs=>GR P fs xs.toList ys.toList k
  | none=>false
 | .pointer (some _),.pointer none | .pointer none,.pointer (some _)=>match P.underlying t with | some (.pointer _)=>k false | _=>false
 | .pointer none,.pointer none=>match P.underlying t with | some (.pointer _)=>k true | _=>false
 | .slice (some _) _ _,.slice none _ _ | .slice none _ _,.slice (some _) _ _=>match P.underlying t with | some (.slice _)=>k false | _=>false
 | .slice none _ _,.slice none _ _=>match P.underlying t with | some (.slice _)=>k true | _=>false
 | .map (some _),.map none | .map none,.map (some _)=>match P.underlying t with | some (.map _ _)=>k false | _=>false
 | .map none,.map none=>match P.underlying t with | some (.map _ _)=>k true | _=>false
 | .func _ _ _,.nilFunc | .nilFunc,.func _ _ _=>match P.underlying t with | some (.func _ _ _)=>k false | _=>false
 | .nilFunc,.nilFunc=>match P.underlying t with | some (.func _ _ _)=>k true | _=>false
 | .iface _ _,.nilIface | .nilIface,.iface _ _=>match P.underlying t with | some (.interface _)=>k false | _=>false
 | .bool x,.bool y=>match P.underlying t with | some .bool=>QE (x==y) k | _=>false
 | _,_=>false
def QH (op:BinOp) (t:TypeId) (a b:Value) (K:Value->Bool):Bool:=
 match a,b with
 | .int k x,.int k' y=>match op with
  | .shl | .shr=>QF op k x y K
  | _=>match yM k k' with | true=>IL op k x y K | false=>false
 | .string x,.string y=>Ld op x y K
 | a,b=>match op with
  | .eql=>nX P t a b fun e=>mX e K
  | .neq=>nX P t a b fun e=>mX (!e) K
  | _=>false
def unK (op:UnOp) (a:Value) (K:Value->Bool):Bool:=
 match op,a with
 | .neg,.int k n=>GH k (Int.sub 0 n) K
 | .xor,.int k n=>wP (k.wrap (BitVec.ofInt k.bits (if k.signed then-1 else k.max) ^^^ BitVec.ofInt k.bits n).toNat) fun n=>K (.int k n)
 | .not,.bool b=>mX (!b) K
 | _,_=>false
def aDK (l:List UInt8) (k:List Value->Bool):Bool:=
 fE (β:=(List Value->Bool)->Bool) (fun k=>k []) (fun b _ ih k=>cG b.toNat fun n=>ih fun t=>k (.int .u8 (.ofNat n)::t)) l k
def Xh (l:List Value) (k:List UInt8->Bool):Bool:=
 fE (β:=(List UInt8->Bool)->Bool) (fun k=>k []) (fun v _ ih k=>match v with | .int .u8 (.ofNat n)=>ih fun t=>k (UInt8.ofNat n::t) | _=>false) l k
def XX (src dst:TypeId) (x:Value) (S:St) (K:VK):Bool:=
 match x with
 | .int _ n=>match P.underlying src,P.underlying dst with
  | some _,some (.int k)=>GH k n fun v=>K v S
  | _,_=>false
 | .string s=>match P.underlying src,P.underlying dst with
  | some .string,some .string=>K (.string s) S
  | some .string,some (.slice e)=>match P.underlying e,bP P e with
   | some (.int .u8),some 1=>aDK s.data.toList fun l=>zZ l fun n=>sP S (.cells l e (.grown [])) fun i S=>K (.slice (some ⟨i,0,some 0⟩) n n) S
   | _,_=>false
  | _,_=>false
 | .slice none _ _=>match P.underlying src,P.underlying dst with
  | some (.slice e),some .string=>match P.underlying e with
   | some (.int .u8)=>K (.string ⟨⟨[]⟩⟩) S
   | _=>false
  | _,_=>false
 | .slice (some ⟨i,o,sp⟩) len _=>match P.underlying src,P.underlying dst,sp with
  | _,_,some (_+1)=>false
  | some (.slice e),some .string,_=>match P.underlying e with
   | some (.int .u8)=>BS S i o len fun l=>Xh l fun l=>K (.string ⟨⟨l⟩⟩) S
   | _=>false
  | _,_,_=>false
 | _=>false
def Le (S:St) (m:Value) (k:Option Nat->List MapEntry->Nat->Bool):Bool:=
 match m with
 | .map none=>k none [] 0
 | .map (some r)=>nV S.h r fun o=>match o with | .map es c=>k (some r) es c | _=>false
 | _=>false
def BF (t:TypeId) (a b:Value) (k:Bool->Bool):Bool:=
 match a,b with
 | .agg _,.agg _=>nX P t a b k
 | a,b=>sI P t a b k
def XY (t:TypeId) (key:Value) (es:List MapEntry) (k:Option (Nat×MapEntry)->Bool):Bool:=
 fE (β:=Nat->Bool) (fun _=>k none)
  (fun e _ ih i=>BF P t key e.key fun b=>match b with | true=>k (some (i,e)) | false=>cG (Nat.succ i) ih) es 0
def JR (t:TypeId) (key:Value):Bool:=
 match iZ key with
 | true=>match pM P t with
  | true=>true
  | false=>match IN P t,key with
   | some fs,.agg cs=>Nat.ble fs.length cs.toList.length
   | _,_=>false
 | false=>false
def BG (t:TypeId):Option (TypeId×TypeId):=match P.underlying t with | some (.map k e)=>some (k,e) | _=>none
def zeroV (t:TypeId):Option Value:=(P.info? t).bind (·.zero)
def NP (t:TypeId) (x ix:Value) (ok:Bool) (S:St) (K:VK):Bool:=
 match BG P t with
 | some (kt,et)=>match JR P kt ix,zeroV P et with
  | true,some zero=>Le S x fun _ es _=>XY P kt ix es fun r=>
   match r with
   | some (_,e)=>match ok with | true=>K (.tuple ⟨[e.val,.bool true]⟩) S | false=>K e.val S
   | none=>match iZ zero with
    | true=>match ok with | true=>K (.tuple ⟨[zero,.bool false]⟩) S | false=>K zero S
    | false=>false
  | _,_=>false
 | none=>false
def yO (t:TypeId) (m key x:Value) (S:St) (k:St->Bool):Bool:=
 match BG P t with
 | some (kt,_)=>match JR P kt key with
  | true=>Le S m fun r es c=>match r with
   | some r=>XY P kt key es fun f=>
    match f with
    | some (i,e)=>match Instr.sameBits 10000 e.key key with
     | true=>aAQ {e with val:=x} es i fun es=>pX S r (.map es c) k
     | false=>false
    | none=>wQ es [{key:=key,val:=x,born:=c}] fun es=>cG (Nat.succ c) fun c=>pX S r (.map es c) k
   | none=>false
  | false=>false
 | none=>false
def WD (t:TypeId) (m key:Value) (S:St) (K:VK):Bool:=
 match BG P t with
 | some (kt,et)=>match JR P kt key,zeroV P et with
  | true,some zero=>Le S m fun r es c=>match r with
   | some r=>XY P kt key es fun f=>
    match f with
    | some (_,e)=>match Instr.sameBits 10000 e.key key with
     | true=>K (.tuple ⟨[e.val,.int .i64 (.ofNat e.born)]⟩) S
     | false=>false
    | none=>match iZ zero with
     | true=>wQ es [{key:=key,val:=zero,born:=c}] fun es=>cG (Nat.succ c) fun c'=>pX S r (.map es c') fun S=>K (.tuple ⟨[zero,.int .i64 (.ofNat c)]⟩) S
     | false=>false
   | none=>false
  | _,_=>false
 | none=>false
def Ik (n:Nat) (es:List MapEntry) (k:Nat->MapEntry->Bool):Bool:=
 fE (β:=Nat->Bool) (fun _=>false) (fun e _ ih i=>match Nat.beq e.born n with | true=>k i e | false=>cG (Nat.succ i) ih) es 0
def LG (m s x:Value) (S:St) (k:St->Bool):Bool:=
 match s with
 | .int _ (.ofNat n)=>Le S m fun r es c=>match r with
  | some r=>Ik n es fun i e=>aAQ {e with val:=x} es i fun es=>pX S r (.map es c) k
  | none=>false
 | _=>false
def aDL{α:Type} (l:List α) (i:Nat) (k:List α->Bool):Bool:=
 fE (β:=Nat->(List α->Bool)->Bool) (fun _ k=>k []) (fun a t ih i k=>nU i (k t) fun p=>ih p fun t'=>k (a::t')) l i k
def Lf (argTypes:List TypeId) (m key:Value) (S:St) (k:St->Bool):Bool:=
 match argTypes with
 | t::_=>match BG P t with
  | some (kt,_)=>match JR P kt key with
   | true=>Le S m fun r es c=>match r with
    | none=>k S
    | some r=>XY P kt key es fun f=>match f with
     | some (i,_)=>aDL es i fun es=>pX S r (.map es c) k
     | none=>k S
   | false=>false
  | none=>false
 | []=>false
def aGT (n:Nat) (l:List Nat):Bool:=fE (β:=Bool) false (fun m _ ih=>dF (Nat.beq m n) true ih) l
def Qg (seen:List Nat) (es:List MapEntry) (k:List MapEntry->Bool):Bool:=
 fE (β:=(List MapEntry->Bool)->Bool) (fun k=>k []) (fun e _ ih k=>dF (aGT e.born seen) (ih k) (ih fun t=>k (e::t))) es k
def SA (t:TypeId) (x:Value) (S:St) (K:VK):Bool:=
 match BG P t with
 | some _=>match x with
  | .map none=>sP S (.iter none 0 [] 0) fun i S=>K (.pointer (some ⟨i,0,none⟩)) S
  | .map (some r)=>nV S.h r fun o=>match o with
   | .map _ c=>sP S (.iter (some r) c [] c) fun i S=>K (.pointer (some ⟨i,0,none⟩)) S
   | _=>false
  | _=>false
 | none=>false
def aAT (it:Value) (S:St) (K:VK):Bool:=
 match it with
 | .pointer (some ⟨i,0,none⟩)=>nV S.h i fun o=>match o with
  | .iter none _ _ _=>K (.tuple ⟨[.bool false]⟩) S
  | .iter (some r) since seen last=>nV S.h r fun o=>match o with
   | .map es c=>match pW (fun e=>Nat.blt e.born since) es,Nat.ble since last with
    | true,true=>Qg seen es fun l=>match l with
     | []=>K (.tuple ⟨[.bool false]⟩) S
     | e::t=>pW (fun e=>wQ seen [e.born] fun seen=>pX S i (.iter (some r) since seen c) fun S=>K (.tuple ⟨[.bool true,e.key,e.val]⟩) S) (e::t)
    | _,_=>false
   | _=>false
  | _=>false
 | _=>false
def Qh (l:List Nat) (k:Nat->Bool):Bool:=fE (β:=Bool) false (fun n t ih=>match t with | []=>k n | _=>ih) l
def Lg (it:Value) (S:St) (K:VK):Bool:=
 match it with
 | .pointer (some ⟨i,0,none⟩)=>nV S.h i fun o=>match o with
  | .iter (some r) _ seen last=>nV S.h r fun o=>match o with
   | .map es c=>match Nat.beq c last with
    | true=>Qh seen fun b=>Ik b es fun _ e=>K (.tuple ⟨[e.key,e.val]⟩) S
    | false=>false
   | _=>false
  | _=>false
 | _=>false
def PB (big:Bool) (l:List Value) (j:IntKind) (x:Int) (K:Value->Bool):Bool:=
 fE (β:=Int->Bool) (fun x=>K (.int j x)) (fun v _ ih x=>match v with
  | .int _ y=>dF (dF big (Hf x y) (Hf y x)) (ih y) (ih x)
  | _=>false) l x
def DF (S:St) (size n:Nat) (x:Value) (k:List Value->Bool):Bool:=
 match x with
 | .slice none _ _=>match n with | 0=>k [] | _=>false
 | .slice (some ⟨i,o,sp⟩) _ _=>match n with
  | 0=>k []
  | n+1=>match sp with
   | some (_+1)=>false
   | _=>BS S i o ((n+1)*size) k
 | .string s=>match size with
  | 1=>LB n s.data.toList fun l=>aDK l k
  | _=>false
 | _=>false
def GS (x:Value) (k:Nat->Bool):Bool:=
 match x with
 | .slice _ n _=>k n
 | .string s=>zZ s.data.toList k
 | _=>false
def JS (elem:TypeId) (old new:List Value) (n:Nat) (from_:Option (Nat×List Value×TypeId×List Nat)) (S:St) (K:VK):Bool:=
 wQ old new fun cs=>
  match from_ with
  | none=>sP S (.cells cs elem (.grown [])) fun i S=>K (.slice (some ⟨i,0,some 0⟩) n n) S
  | some (b,vs,e,olds)=>pX S b (.cells vs e .qV) fun S=>sP S (.cells cs elem (.grown (b::olds))) fun i S=>K (.slice (some ⟨i,0,some 0⟩) n n) S
def Cq:Option TypeDesc->Bool
 | some (.slice _) | some .string=>true
 | _=>false
def Cr:Option Nat->Bool
 | none | some 0=>true
 | _=>false
def LH (size:Nat) (new:List Value) (base:Option Addr) (sLen sCap qR:Nat) (S:St) (K:VK):Bool:=
 match base with
 | some ⟨b,o,sp⟩=>match Cr sp,pW fR new with
  | true,true=>cG (o+sLen*size) fun at_=>oS S b at_ new fun S=>K (.slice (some ⟨b,o,sp⟩) qR sCap) S
  | _,_=>false
 | none=>false
def SC (elem:TypeId) (size:Nat) (new:List Value) (base:Option Addr) (sLen qR:Nat) (S:St) (K:VK):Bool:=
 match base with
 | none=>match sLen with | 0=>JS elem [] new qR none S K | _=>false
 | some ⟨b,o,none⟩=>BS S b o (sLen*size) fun old=>JS elem old new qR none S K
 | some ⟨b,o,some 0⟩=>uJ S b fun vs e c=>zZ vs fun m=>match Nat.beq (o+sLen*size) m,c,bP P e with
  | true,.grown olds,some q=>match Nat.beq q size,pW fR new,Nat.beq e elem with
   | true,true,true=>BS S b o (sLen*size) fun old=>JS elem old new qR (some (b,vs,e,olds)) S K
   | _,_,_=>false
  | _,_,_=>false
 | _=>false
def oF (argTypes:List TypeId) (s x:Value) (S:St) (K:VK):Bool:=
 match argTypes with
 | sT::xT::_=>
  match isSlice P sT,Cq (P.underlying xT)with
  | some elem,true=>match P.info? elem with
   | some info=>match info.size,info.zero,s with
    | size+1,some z,.slice base sLen sCap=>match Nat.beq z.cells.size (size+1)with
     | true=>GS x fun n=>
      match n with
      | 0=>match Nat.ble sLen sCap with | true=>K (.slice base sLen sCap) S | false=>false
      | n'+1=>DF S (size+1) (n'+1) x fun new=>cG (sLen+(n'+1)) fun qR=>
       match BR qR info.bytes with
       | true=>match Nat.ble qR sCap with
        | true=>LH (size+1) new base sLen sCap qR S K
        | false=>SC P elem (size+1) new base sLen qR S K
       | false=>false
     | false=>false
    | _,_,_=>false
   | none=>false
  | _,_=>false
 | _=>false
def Il (argTypes:List TypeId) (dst src:Value) (S:St) (K:VK):Bool:=
 match argTypes with
 | dT::_=>match isSlice P dT with
  | some elem=>match bP P elem,dst with
   | some (size+1),.slice base dLen _=>GS src fun m=>cG (Nat.min m dLen) fun n=>
    match n with
    | 0=>K (.int .i64 (.ofNat 0)) S
    | n'+1=>DF S (size+1) (n'+1) src fun cs=>match base with
     | some ⟨i,o,sp⟩=>match Cr sp,pW fR cs with
      | true,true=>oS S i o cs fun S=>K (.int .i64 (.ofNat (n'+1))) S
      | _,_=>false
     | none=>false
   | _,_=>false
  | none=>false
 | []=>false
def mY (b:Builtin) (argTypes:List TypeId) (args:List Value) (S:St) (K:VK):Bool:=
 match b,args with
 | .len,[x]=>match argTypes with
  | t::_=>match x with
   | .slice _ n _=>match isSlice P t with | some _=>K (.int .i64 (.ofNat n)) S | none=>false
   | .string s=>match P.underlying t with | some .string=>zZ s.data.toList fun n=>K (.int .i64 (.ofNat n)) S | _=>false
   | .map _=>match BG P t with | some _=>Le S x fun _ es _=>zZ es fun n=>K (.int .i64 (.ofNat n)) S | none=>false
   | .agg _=>match P.underlying t with | some (.array n _)=>K (.int .i64 (.ofNat n)) S | _=>false
   | _=>false
  | []=>false
 | .append,[s,x]=>oF P argTypes s x S K
 | .copy,[d,s]=>Il P argTypes d s S K
 | .delete,[m,k]=>Lf P argTypes m k S fun S=>K (.tuple #[]) S
 | .min,.int j x::l=>PB false l j x fun v=>K v S
 | .max,.int j x::l=>PB true l j x fun v=>K v S
 | .cap,[x]=>match argTypes with
  | t::_=>match isSlice P t,x with
   | some _,.slice none _ c=>K (.int .i64 (.ofNat c)) S
   | some _,.slice (some ⟨_,_,none⟩) _ c=>K (.int .i64 (.ofNat c)) S
   | _,_=>false
  | []=>false
 | .clear,[.slice base n _]=>match argTypes with
  | t::_=>match isSlice P t with
   | some elem=>match bP P elem,sH P elem with
    | some size,some zero=>match base,n with
     | none,_=>K (.tuple #[]) S
     | some _,0=>K (.tuple #[]) S
     | some ⟨i,o,sp⟩,n+1=>match Cr sp,Nat.beq zero.length size,pW bA zero,size with
      | true,true,true,_+1=>Qd zero (n+1) fun cs=>oS S i o cs fun S=>K (.tuple #[]) S
      | _,_,_,_=>false
    | _,_=>false
   | none=>false
  | []=>false
 | _,_=>false
end
structure Env where
 P:Program
 ov:FuncId->Option (List Value->St->VK->Bool)
 call:aAS
 round:Nat->List Value->St->VK->Bool
 most:Nat
def DG (P:Program) (t:TypeId) (name:String):Option FuncId:=match P.info? t,P.underlying t with
 | some info,some d=>match info.methods.find? (·.name==name)with
  | some m=>match m.path.toList,m.func with
   | [],some (g,pr)=>match d,pr with
    | .pointer _,true=>some g
    | .pointer _,false=>none
    | _,false=>some g
    | _,true=>none
   | _,_=>none
  | none=>none
 | _,_=>none
def lU (E:Env) (A:aM) (c:Call) (S:St) (K:VK):Bool:=
 LD A c.args.toList fun args=>
  match c.callee with
  | .builtin b=>mY E.P b c.argTypes.toList args S K
  | .value f=>rQ A f fun f=>match f with
   | .func (.func g) first captured=>wQ first.toList args fun l=>wQ l captured.toList fun l=>E.call g l S K
   | .func (.yield l) first captured=>match first.toList,captured.toList with
    | [],[]=>E.round l args S K
    | _,_=>false
   | _=>false
  | .invoke r m=>rQ A r fun v=>match v with
   | .iface t x=>match DG E.P t m with
    | some g=>E.call g (x::args) S K
    | none=>false
   | _=>false
def QI (A:aM) (x:Option Operand) (k:Option Value->Bool):Bool:=
 match x with
 | none=>k none
 | some x=>rQ A x fun v=>k (some v)
def uQ (E:Env) (o:Oper) (A:aM) (S:St) (K:VK):Bool:=
 match o.op with
 | .move x | .assign x=>rQ A x fun v=>K v S
 | .pick c a b=>rQ A c fun c=>rQ A a fun a=>rQ A b fun b=>match c with
  | .bool true=>K a S
  | .bool false=>K b S
  | _=>false
 | .alloc t=>LF E.P t S K
 | .box t x=>rQ A x fun v=>Qf t v S K
 | .build t ps=>Cp E.P A t ps.toList fun v=>K v S
 | .buildSlice t n ps=>vV E.P A t n ps.toList S K
 | .load t a=>rQ A a fun a=>GQ E.P t a S K
 | .store t a x=>rQ A a fun a=>rQ A x fun x=>QG E.P t a x S fun S=>K undef S
 | .nilCheck x=>rQ A x fun v=>match v with
  | .pointer (some a)=>K (.pointer (some a)) S
  | .func (.func f) a b=>K (.func (.func f) a b) S
  | .func (.yield f) a b=>K (.func (.yield f) a b) S
  | .func (.method s) ⟨[.iface t w]⟩ ⟨[]⟩=>match DG E.P t s with
   | some _=>K (.func (.method s) ⟨[.iface t w]⟩ ⟨[]⟩) S
   | none=>false
  | .iface t w=>K (.iface t w) S
  | _=>false
 | .binOp op t x y _=>rQ A x fun a=>rQ A y fun b=>QH E.P op t a b fun v=>K v S
 | .unOp op _ x=>rQ A x fun a=>unK op a fun v=>K v S
 | .convert s d x=>rQ A x fun a=>XX E.P s d a S K
 | .makeInterface t x=>rQ A x fun v=>match E.P.underlying t with
  | some (.interface _)=>false
  | some _=>K (.iface t v) S
  | none=>false
 | .makeFunc fn first cap=>match fn with
  | .func f=>LD A first.toList fun a=>LD A cap.toList fun b=>K (.func (.func f) ⟨a⟩ ⟨b⟩) S
  | .method s=>match first.toList,cap.toList with
   | [x],[]=>rQ A x fun v=>K (.func (.method s) ⟨[v]⟩ ⟨[]⟩) S
   | _,_=>false
  | _=>false
 | .makeMap _ none=>sP S (.map [] 0) fun i S=>K (.map (some i)) S
 | .makeMap t (some r)=>rQ A r fun r=>match r,BG E.P t with
  | .int _ _,some _=>sP S (.map [] 0) fun i S=>K (.map (some i)) S
  | _,_=>false
 | .range t x=>rQ A x fun x=>SA E.P t x S K
 | .next it s=>rQ A it fun it=>match s with | true=>false | false=>aAT it S K
 | .entry it=>rQ A it fun it=>Lg it S K
 | .typeAssert x _ as ok=>rQ A x fun v=>match v,E.P.underlying as with
  | .iface _ _,some (.interface _)=>false
  | .iface t w,some _=>match Nat.beq t as,ok with
   | true,true=>K (.tuple ⟨[w,.bool true]⟩) S
   | true,false=>K w S
   | false,_=>false
  | _,_=>false
 | .makeSlice t l c=>rQ A l fun l=>rQ A c fun c=>sZ E.P t l c S K
 | .slice t x lo hi mx=>match mx,hi with
  | some _,none=>false
  | _,_=>rQ A x fun x=>QI A lo fun lo=>QI A hi fun hi=>QI A mx fun mx=>rE E.P t x lo hi mx S fun v=>K v S
 | .fieldAddr s x f=>rQ A x fun x=>yN E.P s x f fun v=>K v S
 | .field t x f=>rQ A x fun x=>LE E.P t x f fun v=>K v S
 | .indexAddr t x ix=>rQ A x fun x=>rQ A ix fun ix=>rF E.P t x ix fun v=>K v S
 | .index t x ix=>rQ A x fun x=>rQ A ix fun ix=>WC E.P t x ix fun v=>K v S
 | .lookup t x ix ok=>rQ A x fun x=>rQ A ix fun ix=>NP E.P t x ix ok S K
 | .mapUpdate t m k x | .insert t m k x=>rQ A m fun m=>rQ A k fun k=>rQ A x fun x=>yO E.P t m k x S fun S=>K undef S
 | .mapEntry t m k=>rQ A m fun m=>rQ A k fun k=>WD E.P t m k S K
 | .entryStore _ m s x=>rQ A m fun m=>rQ A s fun s=>rQ A x fun x=>LG m s x S fun S=>K undef S
 | .extract t i=>rQ A t fun v=>match v with
  | .tuple vs=>OK vs.toList i fun v=>K v S
  | _=>false
 | .call c=>lU E A c S K
 | _=>false
def wS (ops:Array Oper) (o:Oper) (A:aM) (k:Bool->Bool):Bool:=
 match o.guard with
 | none=>k true
 | some (j,want)=>match ops[j]? with
  | some o'=>match o'.dst with
   | some d=>NO A.tmps d fun v=>match v with
    | .bool b=>match b,want with | true,true | false,false=>k true | _,_=>k false
    | _=>k false
   | none=>k false
  | none=>k false
def QJ (E:Env) (ops:Array Oper) (o:Oper) (A:aM) (S:St) (k:aM->St->Bool):Bool:=
 wS ops o A fun b=>dF b (uQ E o A S fun v S=>lE A o.dst v fun A=>k A S) (lE A o.dst undef fun A=>k A S)
def OL (E:Env) (ops:Array Oper) (l:List Oper) (A:aM) (S:St) (k:aM->St->Bool):Bool:=
 fE (β:=aM->St->Bool) (fun A S=>k A S) (fun o _ ih A S=>QJ E ops o A S ih) l A S
abbrev QK:=uB->aM->St->Bool
def aAU (body:aM->St->QK->Bool) (most:Nat) (A:aM) (S:St) (K:QK):Bool:=
 IK (β:=aM->St->Bool) (fun _ _=>false) (fun _ ih A S=>body A S fun e A S=>match e with | .normal=>ih A S | e=>K e A S) most A S
def QL (E:Env) (r:Option Nat) (f:Operand) (params:Array Tmp) (assign body:Code) (A:aM) (S:St) (K:QK):Bool:=
 rQ A f fun f=>match f with
  | .func (.func g) first captured=>
   let go (A:aM) (S:St):Bool:=sP S (.loop A.tmps params.toList assign body .ready none) fun l S=>
    wQ first.toList [.func (.yield l) #[] #[]] fun as=>wQ as captured.toList fun as=>E.call g as S fun _ S=>
     nV S.h l fun o=>match o with
      | .loop tm ps as bo st pe=>match st with
       | .busy=>false
       | _=>pX S l (.loop tm ps as bo .exhausted pe) fun S=>match pe with
        | none=>K .normal A S
        | some .ret=>K .ret A S
        | some (.exit id)=>K (.exit id) A S
        | _=>false
      | _=>false
   match r with
   | some l=>nV S.h l fun o=>match o with | .loop _ _ _ _ _ _=>go A S | _=>false
   | none=>sP S .defers fun d S=>go ⟨A.tmps,d::A.marks,A.g⟩ S
  | _=>false
def tB (E:Env) (dr:Array Oper->aM->St->(aM->St->Bool)->Bool) (r:Option Nat) (c:Code):aM->St->QK->Bool:=
 aMa (β:=aM->St->QK->Bool)
  (fun A S K=>K .normal A S)
  (fun ops draw A S K=>dF draw (dr ops A S fun A S=>K .normal A S) (OL E ops ops.toList A S fun A S=>K .normal A S))
  (fun ha hb A S K=>ha A S fun e A S=>match e with | .normal=>hb A S K | e=>K e A S)
  (fun c ha hb A S K=>rQ A c fun v=>match v with | .bool b=>dF b (ha A S K) (hb A S K) | _=>false)
  (fun id h A S K=>h A S fun e A S=>match e with
   | .exit i=>match Nat.beq i id with | true=>K .normal A S | false=>K (.exit i) A S
   | e=>K e A S)
  (fun h A S K=>aAU h E.most A S K)
  (fun h A S K=>h A S K)
  (fun f params assign body A S K=>QL E r f params assign body A S K)
  (fun id A S K=>K (.exit id) A S)
  (fun A S K=>K .normal A S)
  (fun A S K=>K .ret A S)
  (fun _ _ _=>false) c
def GI (l:List Nat) (S:St) (k:St->Bool):Bool:=
 fE (β:=St->Bool) (fun S=>k S) (fun d _ ih S=>nV S.h d fun o=>match o with | .defers=>pX S d .dead ih | _=>false) l S
def qC (P:Program) (rs:List ResultVar) (A:aM) (S:St) (k:List Value->Bool):Bool:=
 fE (β:=(List Value->Bool)->Bool) (fun k=>k []) (fun x _ ih k=>match x with
  | .tmp t=>NO A.tmps t fun v=>ih fun vs=>k (v::vs)
  | .cell a t=>NO A.tmps a fun a=>GQ P t a S fun v _=>ih fun vs=>k (v::vs)) rs k
def QM (E:Env) (dr:Array Oper->aM->St->(aM->St->Bool)->Bool) (f:FuncId) (args:List Value) (S:St) (K:VK):Bool:=
 match E.P.funcs[f]? with
 | some fn=>match fn.body with
  | some c=>cG fn.ntmps fun n=>aAR n args fun ts=>tB E dr none c ⟨ts,[],E.P.globals.size⟩ S fun e A S=>
   match e with
   | .exit _=>false
   | _=>GI A.marks S fun S=>qC E.P fn.results.toList A S fun vs=>match vs with | [v]=>K v S | vs=>K (.tuple ⟨vs⟩) S
  | none=>false
 | none=>false
def WE (E:Env) (dr:Array Oper->aM->St->(aM->St->Bool)->Bool) (l:Nat) (args:List Value) (S:St) (K:VK):Bool:=
 nV S.h l fun o=>match o with
  | .loop tmps params assign body _ _=>
   let laid:List Tmp->List Value->Tm->(Tm->Bool)->Bool:=fun ps=>fE (β:=List Value->Tm->(Tm->Bool)->Bool)
    (fun as ts k=>match as with | []=>k ts | _=>false) (fun p _ ih as ts k=>match as with | a::as=>qW a ts p fun ts=>ih as ts k | []=>false) ps
   laid params args tmps fun ts=>tB E dr (some l) assign ⟨ts,[],E.P.globals.size⟩ S fun e A S=>match e with
    | .normal=>nV S.h l fun o=>match o with
     | .loop tm ps as bo .ready pe=>pX S l (.loop tm ps as bo .busy pe) fun S=>tB E dr (some l) body A S fun e _ S=>
      nV S.h l fun o=>match o with
       | .loop tm ps as bo _ _=>match e with
        | .normal=>pX S l (.loop tm ps as bo .ready none) fun S=>K (.bool true) S
        | .ret=>pX S l (.loop tm ps as bo .done (some .ret)) fun S=>K (.bool false) S
        | .exit id=>pX S l (.loop tm ps as bo .done (some (.exit id))) fun S=>K (.bool false) S
       | _=>false
     | _=>false
    | _=>false
  | _=>false
def env (P:Program) (ov:FuncId->Option (List Value->St->VK->Bool)) (dr:Env->Array Oper->aM->St->(aM->St->Bool)->Bool) (most:Nat) (n:Nat):Env:=
 IK (β:=Env) {P,ov,call:=fun _ _ _ _=>false,round:=fun _ _ _ _=>false,most}
  (fun _ E=>{P,ov,call:=fun f args S K=>match ov f with | some g=>g args S K | none=>QM E (dr E) f args S K,round:=fun l args S K=>WE E (dr E) l args S K,most}) n
section
variable{α β:Type}
theorem DM (z:β) (s:Nat->β):nU 0 z s=z:=rfl
theorem Dg (n:Nat) (z:β) (s:Nat->β):nU (n+1) z s=s n:=rfl
theorem rR (z:β) (s:α->List α->β->β):fE z s []=z:=rfl
theorem aO (a:α) (l:List α) (z:β) (s:α->List α->β->β):fE z s (a::l)=s a l (fE z s l):=rfl
theorem WK (z:β) (s:Nat->β->β):IK z s 0=z:=rfl
theorem Iu (n:Nat) (z:β) (s:Nat->β->β):IK z s (n+1)=s n (IK z s n):=rfl
theorem aY (n:Nat) (k:Nat->Bool):cG n k=k n:=by cases n<;>rfl
theorem mI (n:Int) (k:Int->Bool):wP n k=k n:=by cases n<;>simp [wP,aI5,aY]
theorem nQ (b:Bool) (k:Bool->Bool):QE b k=k b:=by cases b<;>rfl
theorem lB (t:Tr α) (n:Nat) (k:α->Bool):nV t n k=match t.get n with | some x=>k x | none=>false:=by
 induction t generalizing n with
 | leaf=>rfl
 | node v l r ihl ihr=>
  cases n with
  | zero=>cases v<;>rfl
  | succ p=>
   have hd:nV (.node v l r) (p+1) k=(nU (Nat.mod p 2) (nV l (Nat.div p 2) k) fun _=>nV r (Nat.div p 2) k):=rfl;rw [hd];have hm:p%2=0\/p%2=1:=by omega
   rcases hm with hm | hm
   ·have:Nat.mod p 2=0:=hm
    rw [this,DM,ihl];have e1:(p+1) / 2=Nat.div p 2:=by show _=p / 2;omega
    simp only [Tr.get,GD,GF,and_false,if_false,show(p+1)%2=1 by omega,if_true,e1]
   ·have:Nat.mod p 2=1:=hm
    rw [this];show nV r (Nat.div p 2) k=_;rw [ihr];have e1:(p+1) / 2-1=Nat.div p 2:=by show _=p / 2;omega
    simp only [Tr.get,GD,GF,and_false,if_false,show ¬(p+1)%2=1 by omega,e1]
theorem IR (x:α):∀(f:Nat) (t:Tr α) (n:Nat) (k:Tr α->Bool),OJ x f t n k=k (Tr.CA x f t n):=by
 intro f;induction f with
 | zero=>intro t n k;rfl
 | succ f ih=>
  intro t n k
  have hs:OJ x (f+1) t n k=aAP t
   (nU n (k (.node (some x) .leaf .leaf)) fun p=>nU (Nat.mod p 2) (OJ x f .leaf (Nat.div p 2) fun c=>k (.node none c .leaf)) fun _=>OJ x f .leaf (Nat.div p 2) fun c=>k (.node none .leaf c))
   (fun v l r=>nU n (k (.node (some x) l r)) fun p=>nU (Nat.mod p 2) (OJ x f l (Nat.div p 2) fun c=>k (.node v c r)) fun _=>OJ x f r (Nat.div p 2) fun c=>k (.node v l c)):=rfl
  rw [hs];cases t with
  | leaf=>
   cases n with
   | zero=>simp [aAP,Tr.CA,DM]
   | succ p=>
    show(nU (Nat.mod p 2) _ fun _=>_)=_;have hm:p%2=0\/p%2=1:=by omega
    rcases hm with hm | hm
    ·have h0:Nat.mod p 2=0:=hm
     rw [h0,DM,ih];have e1:(p+1) / 2=Nat.div p 2:=by show _=p / 2;omega
     simp [Tr.CA,show(p+1)%2=1 by omega,e1]
    ·have h0:Nat.mod p 2=0+1:=hm
     rw [h0,Dg,ih];have e1:(p+1) / 2-1=Nat.div p 2:=by show _=p / 2;omega
     simp [Tr.CA,show ¬(p+1)%2=1 by omega,e1]
  | node v l r=>
   cases n with
   | zero=>simp [aAP,Tr.CA,DM]
   | succ p=>
    show(nU (Nat.mod p 2) _ fun _=>_)=_;have hm:p%2=0\/p%2=1:=by omega
    rcases hm with hm | hm
    ·have h0:Nat.mod p 2=0:=hm
     rw [h0,DM,ih];have e1:(p+1) / 2=Nat.div p 2:=by show _=p / 2;omega
     simp [Tr.CA,show(p+1)%2=1 by omega,e1]
    ·have h0:Nat.mod p 2=0+1:=hm
     rw [h0,Dg,ih];have e1:(p+1) / 2-1=Nat.div p 2:=by show _=p / 2;omega
     simp [Tr.CA,show ¬(p+1)%2=1 by omega,e1]
theorem Dh (x:α):∀(f:Nat) (t:Tr α) (n m:Nat),n<f->(Tr.CA x f t n).get m=if m=n then some x else t.get m:=by
 intro f;induction f with
 | zero=>intro t n m h;omega
 | succ f ih=>
  intro t n m h;have hl:∀m,(Tr.leaf:Tr α).get m=none:=fun m=>rfl;cases t with
  | leaf=>
   simp only [Tr.CA];by_cases h0:n=0
   ·subst h0
    by_cases hm:m=0<;>simp [Tr.get,hm]
   ·by_cases h1:n%2=1
    ·simp only [h0,h1,if_true,if_false,Tr.get]
     by_cases hm:m=0
     ·subst hm;simp [dV h0]
     ·by_cases h2:m%2=1
      ·rw [if_neg hm,if_pos h2,ih _ _ _ (by omega)]
       by_cases e:m=n
       ·subst e;simp
       ·rw [if_neg e,if_neg (by omega),hl]
      ·rw [if_neg hm,if_neg h2,if_neg (by omega)]
    ·simp only [h0,h1,if_false,Tr.get]
     by_cases hm:m=0
     ·subst hm;simp [dV h0]
     ·by_cases h2:m%2=1
      ·rw [if_neg hm,if_pos h2,if_neg (by omega)]
      ·rw [if_neg hm,if_neg h2,ih _ _ _ (by omega)]
       by_cases e:m=n
       ·subst e;simp
       ·rw [if_neg e,if_neg (by omega),hl]
  | node v l r=>
   simp only [Tr.CA];by_cases h0:n=0
   ·subst h0
    by_cases hm:m=0<;>simp [Tr.get,hm]
   ·by_cases h1:n%2=1
    ·simp only [h0,h1,if_true,if_false,Tr.get]
     by_cases hm:m=0
     ·subst hm;simp [dV h0]
     ·by_cases h2:m%2=1
      ·rw [if_neg hm,if_pos h2,ih _ _ _ (by omega)]
       by_cases e:m=n
       ·subst e;simp
       ·rw [if_neg e,if_neg (by omega),if_neg hm,if_pos h2]
      ·rw [if_neg hm,if_neg h2,if_neg (by omega),if_neg hm,if_neg h2]
    ·simp only [h0,h1,if_false,Tr.get]
     by_cases hm:m=0
     ·subst hm;simp [dV h0]
     ·by_cases h2:m%2=1
      ·rw [if_neg hm,if_pos h2,if_neg (by omega),if_neg hm,if_pos h2]
      ·rw [if_neg hm,if_neg h2,ih _ _ _ (by omega)]
       by_cases e:m=n
       ·subst e;simp
       ·rw [if_neg e,if_neg (by omega),if_neg hm,if_neg h2]
theorem vB (t:Tr α) (n:Nat) (x:α) (m:Nat):(t.put n x).get m=if m=n then some x else t.get m:=Dh x _ t n m (vI n)
theorem aGX (l:List α) (i:Nat) (k:α->Bool):OK l i k=match l[i]? with | some a=>k a | none=>false:=by
 induction l generalizing i with
 | nil=>rfl
 | cons a l ih=>
  cases i with
  | zero=>rfl
  | succ i=>exact(ih i).trans (by simp)
theorem Db (v:α) (l:List α) (i:Nat) (k:List α->Bool):aAQ v l i k=k (l.set i v):=by
 induction l generalizing i k with
 | nil=>rfl
 | cons a l ih=>
  cases i with
  | zero=>rfl
  | succ i=>exact ih i _
theorem aAV (l:List α) (k:List α->Bool):aGS l k=k l:=by
 induction l generalizing k with
 | nil=>rfl
 | cons a l ih=>exact ih _
theorem kL (l m:List α) (k:List α->Bool):wQ l m k=k (l++m):=by
 induction l generalizing k with
 | nil=>rfl
 | cons a l ih=>exact ih _
theorem AB (n:Nat) (l:List α) (k:List α->Bool):LB n l k=if n<=l.length then k (l.take n)else false:=by
 induction n generalizing l k with
 | zero=>simp [LB,WK]
 | succ n ih=>
  cases l with
  | nil=>rfl
  | cons a l=>
   show LB n l (fun t'=>k (a::t'))=_;rw [ih];simp
theorem wW (n:Nat) (l:List α) (k:List α->Bool):FB n l k=if n<=l.length then k (l.drop n)else false:=by
 induction n generalizing l with
 | zero=>simp [FB,WK]
 | succ n ih=>
  cases l with
  | nil=>rfl
  | cons a l=>
   show FB n l k=_;rw [ih];simp
def aG (off:Nat) (new l:List α):List α:=l.take off++new++l.drop (off+new.length)
theorem aDT (new l:List α) (k:List α->Bool):Qc new l k=if new.length<=l.length then k (new++l.drop new.length)else false:=by
 induction new generalizing l k with
 | nil=>simp [Qc,rR]
 | cons a new ih=>
  cases l with
  | nil=>rfl
  | cons b l=>
   show Qc new l (fun t'=>k (a::t'))=_;rw [ih];simp
theorem vM (off:Nat) (new l:List α) (k:List α->Bool):qA off new l k=if off+new.length<=l.length then k (aG off new l)else false:=by
 induction off generalizing l k with
 | zero=>
  show Qc new l k=_;rw [aDT];simp [aG]
 | succ off ih=>
  cases l with
  | nil=>show false=_;rw [if_neg (by simp)]
  | cons b l=>
   show qA off new l (fun t'=>k (b::t'))=_;rw [ih];have:off+1+new.length<=(b::l).length↔off+new.length<=l.length:=by simp;omega
   simp only [this];have e:aG (off+1) new (b::l)=b::aG off new l:=by simp [aG,show off+1+new.length=(off+new.length)+1 by omega]
   rw [e]
theorem kG (off:Nat) (new l:List α) (h:off+new.length<=l.length):(aG off new l).length=l.length:=by simp [aG];omega
theorem fL (off:Nat) (new l:List α) (h:off+new.length<=l.length) (j:Nat):
 (aG off new l)[j]? =if off<=j/\j<off+new.length then new[j-off]? else l[j]? :=by
 unfold aG;by_cases h1:j<off
 ·rw [if_neg (by omega),KX,fQ (by simp;omega),kZ,if_pos h1]
 ·by_cases h2:j<off+new.length
  ·rw [if_pos (by omega),KX,iO (by simp;omega),fQ (by simp;omega)]
   congr 1;simp;omega
  ·rw [if_neg (by omega),iO (by simp;omega),kI]
   congr 1;simp;omega
theorem jT (l:List α) (k:Nat->Bool):zZ l k=k l.length:=by
 have h:∀(l:List α) (n:Nat),fE (β:=Nat->Bool) (fun n=>k n) (fun _ _ ih n=>cG (Nat.succ n) ih) l n=k (n+l.length):=by
  intro l;induction l with
  | nil=>intro n;rfl
  | cons a l ih=>
   intro n;rw [aO,aY,ih]
   congr 1;simp;omega
 unfold zZ;rw [h,fK]
theorem zP (z:List α) (n:Nat) (k:List α->Bool):Qd z n k=k (List.replicate n z).flatten:=by
 have h:∀(n:Nat) (acc:List α),IK (β:=List α->Bool) (fun acc=>k acc) (fun _ ih acc=>wQ z acc ih) n acc=k ((List.replicate n z).flatten++acc):=by
  intro n;induction n with
  | zero=>intro acc;rfl
  | succ n ih=>
   intro acc;rw [Iu,kL,ih]
   have:(List.replicate n z).flatten++(z++acc)=(List.replicate (n+1) z).flatten++acc:=by
    rw [List.replicate_succ',List.flatten_append];simp
   rw [this]
 unfold Qd;rw [h,vJ]
theorem jJ (f:α->Bool) (l:List α):pW f l=l.all f:=by
 induction l with
 | nil=>rfl
 | cons a l ih=>
  show dF (f a) (pW f l) false=_;cases h:f a<;>simp [dF,h,ih]
theorem aB2 (l:List α) (i:Nat) (k:List α->Bool):aDL l i k=k (l.eraseIdx i):=by
 induction l generalizing i k with
 | nil=>rfl
 | cons a l ih=>
  cases i with
  | zero=>rfl
  | succ i=>exact ih i _
end
theorem Qv (l:List Nat) (h:Tr gV) (k:Tr gV->Bool):Ii l h k=k (l.foldl (fun h i=>h.put i .dead) h):=by
 induction l generalizing h with
 | nil=>rfl
 | cons i l ih=>
  show OJ .dead (Nat.succ i) h i (fun h=>Ii l h k)=_;rw [IR,ih];rfl
theorem Qw (l:List Nat) (h:Tr gV) (m:Nat):(l.foldl (fun h i=>h.put i gV.dead) h).get m=if m∈l then some .dead else h.get m:=by
 induction l generalizing h with
 | nil=>simp
 | cons i l ih=>
  rw [PY,ih,vB];by_cases h1:m∈l
  ·simp [h1]
  ·by_cases h2:m=i
   ·simp [h2]
   ·simp [h1,h2]
def St.set (S:St) (i:Nat) (o:gV):St:=⟨S.h.put i o,S.n⟩
def St.new (S:St) (o:gV):St:=⟨S.h.put S.n o,S.n+1⟩
def St.obj (S:St) (i:Nat):Option gV:=S.h.get i
theorem zQ (S:St) (i:Nat) (o:gV) (j:Nat):(S.set i o).obj j=if j=i then some o else S.obj j:=vB _ _ _ _
theorem IQ (S:St) (o:gV) (j:Nat):(S.new o).obj j=if j=S.n then some o else S.obj j:=vB _ _ _ _
theorem gG (S:St) (o:gV) (k:Nat->St->Bool):sP S o k=k S.n (S.new o):=by simp [sP,IR,aY,St.new,Tr.put]
theorem fZ (S:St) (i:Nat) (o:gV) (k:St->Bool):pX S i o k=k (S.set i o):=by simp [pX,IR,St.set,Tr.put]
theorem tI{S:St}{i:Nat}{k:List Value->TypeId->CK->Bool} (h:uJ S i k=true):∃vs e c,S.obj i=some (.cells vs e c)/\k vs e c=true:=by
 unfold uJ at h;rw [lB]at h;cases ho:S.h.get i with
 | none=>simp [ho]at h
 | some o=>cases o<;>simp [ho]at h;exact⟨_,_,_,ho,h⟩
theorem rG{S:St}{i off n:Nat}{k:List Value->Bool} (h:BS S i off n k=true):
 ∃vs e c,S.obj i=some (.cells vs e c)/\off+n<=vs.length/\k ((vs.drop off).take n)=true:=by
 obtain⟨vs,e,c,ho,h⟩:=tI h;rw [wW]at h;split at h
 ·rw [AB]at h
  split at h
  ·rename_i h1 h2
   exact⟨vs,e,c,ho,by simp at h2;omega,h⟩
  ·simp at h
 ·simp at h
theorem GV{α:Type}{l:List α}{i:Nat}{k:α->Bool} (h:OK l i k=true):∃a,l[i]? =some a/\k a=true:=by
 rw [aGX]at h;cases ha:l[i]? with
 | none=>simp [ha]at h
 | some a=>exact⟨a,rfl,by simpa [ha]using h⟩
theorem AD{T:Tm}{i:Nat}{k:Value->Bool} (h:NO T i k=true):∃v,T.t.get i=some v/\k v=true:=by
 unfold NO at h;rw [lB]at h;cases hx:T.t.get i with
 | none=>rw [hx]at h;cases h
 | some x=>rw [hx]at h;exact⟨x,rfl,h⟩
def Tm.put (T:Tm) (i:Nat) (v:Value):Tm:=⟨T.t.put i v,T.n⟩
theorem yR{v:Value}{T:Tm}{i:Nat}{k:Tm->Bool} (h:qW v T i k=true):i<T.n/\k (T.put i v)=true:=by
 unfold qW at h;split at h
 ·rename_i hb
  rw [IR]at h;exact⟨bE hb,h⟩
 ·cases h
theorem aDU{A:aM}{x:Operand}{k:Value->Bool} (h:rQ A x k=true):
 ∃v,k v=true/\((∃t,x= .tmp t/\A.tmps.t.get t=some v)\/(x= .const v/\iZ v=true)\/(∃g,x= .global g/\g<A.g/\v= .pointer (some ⟨g,0,none⟩))\/(∃f,x= .func f/\v= .func (.func f) #[] #[])):=by
 cases x with
 | tmp t=>obtain⟨a,ha,hk⟩:=AD h;exact⟨a,hk,.inl ⟨t,rfl,ha⟩⟩
 | const v=>
  cases hf:iZ v with
  | true=>exact⟨v,by simpa [rQ,hf]using h,.inr (.inl ⟨rfl,hf⟩)⟩
  | false=>simp [rQ,hf]at h
 | global g=>
  cases hg:Nat.blt g A.g with
  | true=>exact⟨_,by simpa [rQ,hg]using h,.inr (.inr (.inl ⟨g,rfl,bE hg,rfl⟩))⟩
  | false=>simp [rQ,hg]at h
 | func f=>exact⟨_,h,.inr (.inr (.inr ⟨f,rfl,rfl⟩))⟩
end Go.Am
namespace Go.Am
open Go.RowKit
structure Loc where
 b:Nat
 s:Nat
 e:Nat
 m:Nat
abbrev Rn:=Nat->Option Loc
inductive VR (U:Rn):Value->Value->Prop
 | flat {v:Value} (h:bA v=true):VR U v v
 | ptr {i o:Nat} {L:Loc} (h:U i=some L):VR U (.pointer (some ⟨i,o,none⟩)) (.pointer (some ⟨L.b,L.s+o,none⟩))
 | slice {i o n c:Nat} {L:Loc} (h:U i=some L):VR U (.slice (some ⟨i,o,none⟩) n c) (.slice (some ⟨L.b,L.s+o,none⟩) n c)
 | oG {i o n c c':Nat} {L:Loc} (h:U i=some L) (hc:c<=c') (hn:n<=c) (he:L.s+o+c'*L.m=L.e) (hm:0<L.m):VR U (.slice (some ⟨i,o,some 0⟩) n c) (.slice (some ⟨L.b,L.s+o,none⟩) n c')
 | wT {i c':Nat} {a:Addr}:VR U (.slice (some ⟨i,0,some 1⟩) 0 0) (.slice (some a) 0 c')
 | wU {b o s:Nat} {sp:Option Nat} (hs:sp=match s with | 0=>none | k+1=>some k):VR U (.slice (some ⟨b,o,some (s+2)⟩) 0 0) (.slice (some ⟨b,o,sp⟩) 0 0)
 | map {i:Nat} {L:Loc} (h:U i=some L):VR U (.map (some i)) (.map (some L.b))
 | func {f:FuncId} {a a' c c':Array Value} (ha:a.size=a'.size) (hc:c.size=c'.size) (h1:∀(k:Nat) (v v':Value),a.toList[k]? =some v->a'.toList[k]? =some v'->VR U v v')
  (h2:∀(k:Nat) (v v':Value),c.toList[k]? =some v->c'.toList[k]? =some v'->VR U v v'):VR U (.func (.func f) a c) (.func (.func f) a' c')
 | yield {l:Nat} {L:Loc} (h:U l=some L):VR U (.func (.yield l) #[] #[]) (.func (.yield L.b) #[] #[])
 | DO {s:String} {v v':Value} (h:VR U v v'):VR U (.func (.method s) ⟨[v]⟩ ⟨[]⟩) (.func (.method s) ⟨[v']⟩ ⟨[]⟩)
 | iface {t:TypeId} {v v':Value} (h:VR U v v'):VR U (.iface t v) (.iface t v')
 | agg {a a':Array Value} (ha:a.size=a'.size) (h1:∀(k:Nat) (v v':Value),a.toList[k]? =some v->a'.toList[k]? =some v'->VR U v v'):VR U (.agg a) (.agg a')
 | tuple {a a':Array Value} (ha:a.size=a'.size) (h1:∀(k:Nat) (v v':Value),a.toList[k]? =some v->a'.toList[k]? =some v'->VR U v v'):VR U (.tuple a) (.tuple a')
def kK (U:Rn) (l l':List Value):Prop:=l.length=l'.length/\∀(k:Nat) (v v':Value),l[k]? =some v->l'[k]? =some v'->VR U v v'
def Qz (U:Rn) (T:Tm) (l':List Value):Prop:=T.n=l'.length/\∀(k:Nat) (v:Value),T.t.get k=some v->∃v',l'[k]? =some v'/\VR U v v'
theorem Qz.get{U:Rn}{T:Tm}{l':List Value} (h:Qz U T l'){k:Nat}{v:Value} (hv:T.t.get k=some v):∃v',l'[k]? =some v'/\VR U v v':=h.2 k v hv
theorem Qz.set{U:Rn}{T:Tm}{l':List Value} (h:Qz U T l'){i:Nat} (hi:i<T.n){v v':Value} (hv:VR U v v'):Qz U (T.put i v) (l'.set i v'):=by
 refine⟨by simpa [Tm.put]using h.1,fun k x hx=>?_⟩;have hx:(T.t.put i v).get k=some x:=hx;rw [vB]at hx;have hl:i<l'.length:=by rw [<-h.1];exact hi
 by_cases e:k=i
 ·subst e
  rw [if_pos rfl]at hx;injection hx with hx;subst hx;exact⟨v',by simp [hl],hv⟩
 ·rw [if_neg e]at hx
  obtain⟨y,hy,hr⟩:=h.2 k x hx;exact⟨y,by rw [PV (dV e)];exact hy,hr⟩
def Ext (U U':Rn):Prop:=∀i L,U i=some L->U' i=some L
theorem Ext.refl (U:Rn):Ext U U:=fun _ _ h=>h
theorem Ext.trans{a b c:Rn} (h:Ext a b) (k:Ext b c):Ext a c:=fun i L e=>k i L (h i L e)
theorem VR.mono{U U':Rn} (he:Ext U U'){v v':Value} (h:VR U v v'):VR U' v v':=by
 induction h with
 | flat h=>exact .flat h
 | ptr h=>exact .ptr (he _ _ h)
 | slice h=>exact .slice (he _ _ h)
 | oG h hc hn hh hm=>exact .oG (he _ _ h) hc hn hh hm
 | wT=>exact .wT
 | wU hs=>exact .wU hs
 | map h=>exact .map (he _ _ h)
 | func ha hc _ _ i1 i2=>exact .func ha hc i1 i2
 | yield h=>exact .yield (he _ _ h)
 | DO _ ih=>exact .DO ih
 | iface _ ih=>exact .iface ih
 | agg ha _ ih=>exact .agg ha ih
 | tuple ha _ ih=>exact .tuple ha ih
theorem kK.mono{U U':Rn} (he:Ext U U'){l l':List Value} (h:kK U l l'):kK U' l l':=⟨h.1,fun k v v' a b=>(h.2 k v v' a b).mono he⟩
theorem Qz.mono{U U':Rn} (he:Ext U U'){T:Tm}{l':List Value} (h:Qz U T l'):Qz U' T l':=⟨h.1,fun k v hv=>let⟨v',a,b⟩:=h.2 k v hv;⟨v',a,b.mono he⟩⟩
theorem kK.nil (U:Rn):kK U [] []:=⟨rfl,by simp⟩
theorem kK.cons{U:Rn}{v v':Value}{l l':List Value} (h:VR U v v') (t:kK U l l'):kK U (v::l) (v'::l'):=by
 refine⟨by simp [t.1],fun k x x' a b=>?_⟩;cases k with
 | zero=>simp at a b;subst a b;exact h
 | succ k=>simp at a b;exact t.2 k x x' a b
theorem kK.head{U:Rn}{v v':Value}{l l':List Value} (h:kK U (v::l) (v'::l')):VR U v v':=h.2 0 v v' rfl rfl
theorem kK.tail{U:Rn}{v v':Value}{l l':List Value} (h:kK U (v::l) (v'::l')):kK U l l':=
 ⟨by simpa using h.1,fun k x x' a b=>h.2 (k+1) x x' (by simpa using a) (by simpa using b)⟩
theorem kK.iH{U:Rn}{l':List Value} (h:kK U [] l'):l'=[]:=lZ (by simpa using h.1.symm)
theorem kK.bU{U:Rn}{v:Value}{l l':List Value} (h:kK U (v::l) l'):∃v' t',l'=v'::t'/\VR U v v'/\kK U l t':=by
 cases l' with
 | nil=>have:=h.1;simp at this
 | cons v' t'=>exact⟨v',t',rfl,h.head,h.tail⟩
theorem kK.get{U:Rn}{l l':List Value} (h:kK U l l'){k:Nat}{v:Value} (hv:l[k]? =some v):∃v',l'[k]? =some v'/\VR U v v':=by
 have hk:k<l'.length:=by rw [<-h.1];exact(cZ.1 hv).1
 exact⟨l'[k],aS hk,h.2 k v _ hv (aS hk)⟩
theorem kK.get_none{U:Rn}{l l':List Value} (h:kK U l l'){k:Nat} (hv:l[k]? =none):l'[k]? =none:=by
 rw [List.getElem?_eq_none_iff]at*;rw [<-h.1];exact hv
theorem kK.append{U:Rn}{l l' m m':List Value} (h:kK U l l') (k:kK U m m'):kK U (l++m) (l'++m'):=by
 refine⟨by simp [h.1,k.1],fun j v v' a b=>?_⟩;by_cases hj:j<l.length
 ·rw [fQ hj]at a
  rw [fQ (by rw [<-h.1];exact hj)]at b;exact h.2 j v v' a b
 ·rw [iO (by omega)]at a
  rw [iO (by rw [<-h.1];omega),<-h.1]at b;exact k.2 _ v v' a b
theorem kK.take{U:Rn}{l l':List Value} (h:kK U l l') (n:Nat):kK U (l.take n) (l'.take n):=by
 refine⟨by simp [h.1],fun j v v' a b=>?_⟩;rw [kZ]at a b;split at a
 ·rename_i hj;rw [if_pos hj]at b;exact h.2 j v v' a b
 ·simp at a
theorem kK.drop{U:Rn}{l l':List Value} (h:kK U l l') (n:Nat):kK U (l.drop n) (l'.drop n):=by
 refine⟨by simp [h.1],fun j v v' a b=>?_⟩;rw [kI]at a b;exact h.2 _ v v' a b
theorem kK.aG{U:Rn}{l l' n n':List Value} (h:kK U l l') (k:kK U n n') (off:Nat):kK U (aG off n l) (aG off n' l'):=by
 unfold Am.aG;rw [<-k.1];exact((h.take off).append k).append (h.drop _)
theorem kK.flat{U:Rn}{l:List Value} (h:∀v∈l,bA v=true):kK U l l:=
 ⟨rfl,fun k v v' a b=>by rw [a]at b;injection b with b;subst b;exact .flat (h v (rB a))⟩
theorem kK.flatten{U:Rn}{z z':List Value} (h:kK U z z') (n:Nat):kK U (List.replicate n z).flatten (List.replicate n z').flatten:=by
 induction n with
 | zero=>exact .nil U
 | succ n ih=>simp only [Kt,VP];exact h.append ih
theorem VR.iZ{U:Rn}{v:Value} (h:iZ v=true):VR U v v:=by
 cases v<;>first
  | exact .flat h
  | (rename_i cs;exact .agg rfl (kK.flat (U:=U) (dL.1 h)).2)
theorem VR.of_flat{U:Rn}{v v':Value} (h:VR U v v') (hf:bA v=true):v'=v:=by
 cases h<;>first | rfl | simp [bA]at hf
theorem VR.FC{U:Rn}{a:Array Value}{v':Value} (h:VR U (.agg a) v'):∃a',v'= .agg a'/\kK U a.toList a'.toList:=by
 cases h with
 | flat h=>simp [bA]at h
 | agg ha h1=>exact⟨_,rfl,by simpa using ha,h1⟩
theorem VR.GY{U:Rn}{a:Array Value}{v':Value} (h:VR U (.tuple a) v'):∃a',v'= .tuple a'/\kK U a.toList a'.toList:=by
 cases h with
 | flat h=>simp [bA]at h
 | tuple ha h1=>exact⟨_,rfl,by simpa using ha,h1⟩
theorem VR.Lh{U:Rn}{a a':Array Value} (h:kK U a.toList a'.toList):VR U (.agg a) (.agg a'):= .agg (by simpa using h.1) h.2
theorem VR.qD{U:Rn}{a a':Array Value} (h:kK U a.toList a'.toList):VR U (.tuple a) (.tuple a'):= .tuple (by simpa using h.1) h.2
theorem VR.Qn{U:Rn}{v v':Value} (h:VR U v v') (hf:Am.iZ v=true):v'=v:=by
 by_cases ha:∃a,v= .agg a
 ·obtain⟨a,rfl⟩:=ha
  obtain⟨a',rfl,hl⟩:=h.FC;have Gx:∀x∈a.toList,bA x=true:=dL.1 hf
  have:a'.toList=a.toList:=by
   apply uH;intro k;cases hk:a.toList[k]? with
   | none=>exact hl.get_none hk
   | some x=>
    obtain⟨x',YE,hr⟩:=hl.get hk;rw [YE,hr.of_flat (Gx x (rB hk))]
  rw [gW.1 this]
 ·refine h.of_flat ?_
  cases v<;>first | exact hf | (exact absurd ⟨_,rfl⟩ ha)
theorem VR.fR{U:Rn}{v v':Value} (h:VR U v v') (ho:fR v=true):v'.oneCell'=true:=by
 cases h<;>first | rfl | (simp [Am.fR]at ho;done) | (rename_i h;revert ho;cases v<;>simp [Am.fR,Value.oneCell'])
section
variable (P:Program) (w0:World)
def WI (n:Nat) (fz:Nat×Nat):Prop:=∀x,x<n->¬(fz.1<=x/\x<fz.2)
def Ay (n:Nat) (fz:Nat×Nat):Prop:=∀x,x<=n->¬(fz.1<=x/\x<fz.2)
theorem Ay.to{n:Nat}{fz:Nat×Nat} (h:Ay n fz):WI n fz:=fun x hx=>h x (Nat.le_of_lt hx)
def Lx (L:Loc) (cs:Array Value) (n:Nat) (fz:Nat×Nat) (e t:TypeId):CK->Prop
 | .ro=>bP P e=some L.m
 | .rs=>bP P e=some L.m/\∀j,j<n->¬(fz.1<=L.s+j/\L.s+j<fz.2)
 | .exact=>w0.heap.size<=L.b/\L.s=0/\cs.size=n/\Ay cs.size fz/\t=e
 | .grown _=>w0.heap.size<=L.b/\WI cs.size fz/\L.e=cs.size/\bP P e=some L.m/\t=e
 | .qV=>w0.heap.size<=L.b/\bP P e=some L.m/\t=e
def LJ (U:Rn) (e e':MapEntry):Prop:=e'.key=e.key/\iZ e.key=true/\e'.born=e.born/\VR U e.val e'.val
def fN (U:Rn) (l l':List MapEntry):Prop:=l.length=l'.length/\∀(k:Nat) (e e':MapEntry),l[k]? =some e->l'[k]? =some e'->LJ U e e'
def yQ (U:Rn) (w:World) (i:Nat):gV->Prop
 | .dead=>True
 | .cells vs e k=>∃L cs t fz,U i=some L/\w.heap[L.b]? =some (.cells cs t fz)/\(∀(j:Nat) (v:Value),vs[j]? =some v->∃v',cs[L.s+j]? =some v'/\VR U v v')/\Lx P w0 L cs vs.length fz e t k
 | .map es c=>∃L iD,U i=some L/\w0.heap.size<=L.b/\w.heap[L.b]? =some (.map iD c)/\fN U es iD.toList
 | .loop tmps params assign body st pe=>∃L r,U i=some L/\w0.heap.size<=L.b/\w.heap[L.b]? =some (.loop r)/\r.state=st/\r.pending=pe/\r.params.toList=params/\r.assign=assign/\r.body=body/\Qz U tmps r.tmps.toList
 | .defers=>∃L,U i=some L/\w0.heap.size<=L.b/\w.heap[L.b]? =some (.deferred (some []))
 | .iter none _ _ _=>∃L a b c,(U i=some L/\L.s=0)/\w0.heap.size<=L.b/\w.heap[L.b]? =some (.mapIter none a b c)
 | .iter (some r) since seen last=>∃L M,(U i=some L/\L.s=0)/\w0.heap.size<=L.b/\U r=some M/\w.heap[L.b]? =some (.mapIter (some M.b) since ⟨seen⟩ last)
def gV.vO:gV->Bool
 | .dead=>true
 | _=>false
def gV.reads:gV->Bool
 | .cells _ _ .ro | .cells _ _ .qV | .cells _ _ .rs=>true
 | _=>false
def gV.olds:gV->List Nat
 | .cells _ _ (.grown l)=>l
 | _=>[]
def aDP (i j:Nat) (a b:gV):Prop:=(a.reads=true/\b.reads=true)\/j∈a.olds\/i∈b.olds
def Qr (U:Rn) (j:Nat) (vs:List Value) (i:Nat) (o:gV):Prop:=
 o= .dead\/∃ws e,o= .cells ws e .qV/\∀L M,U j=some L->U i=some M->M.b=L.b->M.s+ws.length<=L.s+vs.length
structure Rel (U:Rn) (S:St) (w:World):Prop where
 ZZ:∀g,g<P.globals.size->∃L,U g=some L/\L.b=g/\L.s=0
 DK:∀i o,S.obj i=some o->yQ P w0 U w i o
 Pt:∀i,S.n<=i->U i=none
 lt:∀i o,S.obj i=some o->i<S.n
 loc:∀i L,U i=some L->L.b<w.heap.size
 sep:∀i j a b L M,i≠j->S.obj i=some a->S.obj j=some b->a.vO=false->b.vO=false->U i=some L->U j=some M->L.b=M.b->aDP i j a b
 old:∀j vs e olds,S.obj j=some (.cells vs e (.grown olds))->∀i∈olds,i<S.n/\∀o,S.obj i=some o->Qr U j vs i o
 base:Below w0.heap.size w0 w
end
theorem fN.mono{U U':Rn} (he:Ext U U'){l l':List MapEntry} (h:fN U l l'):fN U' l l':=
 ⟨h.1,fun k e e' a b=>let⟨x,y,z,u⟩:=h.2 k e e' a b;⟨x,y,z,u.mono he⟩⟩
theorem yQ.frame{P:Program}{w0:World}{U U':Rn}{w w':World}{i:Nat}{o:gV} (he:Ext U U') (hb:∀L,U i=some L->w'.heap[L.b]? =w.heap[L.b]?) (h:yQ P w0 U w i o):yQ P w0 U' w' i o:=by
 cases o with
 | dead=>trivial
 | cells vs e k=>
  obtain⟨L,cs,t,fz,h1,h2,h3,h4⟩:=h;exact⟨L,cs,t,fz,he _ _ h1,(hb L h1).trans h2,fun j v hj=>let⟨v',a,b⟩:=h3 j v hj;⟨v',a,b.mono he⟩,h4⟩
 | map es c=>
  obtain⟨L,iD,h1,h2,h3,h4⟩:=h;exact⟨L,iD,he _ _ h1,h2,(hb L h1).trans h3,h4.mono he⟩
 | loop tmps params assign body st pe=>
  obtain⟨L,r,h1,h2,h3,h4,h5,h6,h7,h8,h9⟩:=h;exact⟨L,r,he _ _ h1,h2,(hb L h1).trans h3,h4,h5,h6,h7,h8,h9.mono he⟩
 | defers=>
  obtain⟨L,h1,h2,h3⟩:=h;exact⟨L,he _ _ h1,h2,(hb L h1).trans h3⟩
 | iter m since seen last=>
  cases m with
  | none=>obtain⟨L,a,b,c,h1,h2,h3⟩:=h;exact⟨L,a,b,c,⟨he _ _ h1.1,h1.2⟩,h2,(hb L h1.1).trans h3⟩
  | some r=>obtain⟨L,M,h1,h2,h3,h4⟩:=h;exact⟨L,M,⟨he _ _ h1.1,h1.2⟩,h2,he _ _ h3,(hb L h1.1).trans h4⟩
theorem yQ.loc{P:Program}{w0:World}{U:Rn}{w:World}{i:Nat}{o:gV} (h:yQ P w0 U w i o) (hd:o.vO=false):∃L,U i=some L:=by
 cases o with
 | dead=>cases hd
 | cells vs e k=>obtain⟨L,_,_,_,h1,_⟩:=h;exact⟨L,h1⟩
 | map es c=>obtain⟨L,_,h1,_⟩:=h;exact⟨L,h1⟩
 | loop _ _ _ _ _ _=>obtain⟨L,_,h1,_⟩:=h;exact⟨L,h1⟩
 | defers=>obtain⟨L,h1,_⟩:=h;exact⟨L,h1⟩
 | iter m since seen last=>cases m with
  | none=>obtain⟨L,_,_,_,h1,_⟩:=h;exact⟨L,h1.1⟩
  | some r=>obtain⟨L,_,h1,_⟩:=h;exact⟨L,h1.1⟩
def Fr (U:Rn) (w w':World):Prop:=w.heap.size<=w'.heap.size/\∀c,c<w.heap.size->(∀i L,U i=some L->L.b≠c)->w'.heap[c]? =w.heap[c]?
def Nw (U U':Rn) (w:World):Prop:=∀i L,U' i=some L->U i=some L\/w.heap.size<=L.b\/∃j M,U j=some M/\M.b=L.b
structure sQ (U:Rn) (w:World) (U':Rn) (w':World):Prop where
 ext:Ext U U'
 fr:Fr U w w'
 nw:Nw U U' w
theorem sQ.refl (U:Rn) (w:World):sQ U w U w:=⟨.refl U,⟨bN _,fun _ _ _=>rfl⟩,fun _ _ h=> .inl h⟩
theorem sQ.trans{U U1 U2:Rn}{w w1 w2:World} (h:sQ U w U1 w1) (k:sQ U1 w1 U2 w2):sQ U w U2 w2:=by
 refine⟨h.ext.trans k.ext,⟨rD h.fr.1 k.fr.1,fun c hc hn=>?_⟩,fun i L hi=>?_⟩
 ·rw [k.fr.2 c (BC hc h.fr.1) (fun i L hi=>?_),h.fr.2 c hc hn]
  rcases h.nw i L hi with h1 | h1 | ⟨j,M,h1,h2⟩
  ·exact hn i L h1
  ·omega
  ·rw [<-h2];exact hn j M h1
 ·rcases k.nw i L hi with h1 | h1 | ⟨j,M,h1,h2⟩
  ·exact h.nw i L h1
  ·exact .inr (.inl (rD h.fr.1 h1))
  ·rcases h.nw j M h1 with h3 | h3 | ⟨q,N,h3,h4⟩
   ·exact .inr (.inr ⟨j,M,h3,h2⟩)
   ·exact .inr (.inl (by omega))
   ·exact .inr (.inr ⟨q,N,h3,by omega⟩)
def Rn.put (U:Rn) (i:Nat) (L:Loc):Rn:=fun j=>if j=i then some L else U j
theorem Rn.FH{U:Rn}{i:Nat}{L:Loc} (h:U i=none):Ext U (U.put i L):=fun j M hj=>by
 unfold Rn.put;by_cases e:j=i
 ·subst e;rw [h]at hj;cases hj
 ·rw [if_neg e];exact hj
theorem Rn.jN (U:Rn) (i:Nat) (L:Loc):U.put i L i=some L:=if_pos rfl
section
variable{P:Program}{w0:World}{U:Rn}{S:St}{w:World}
theorem Rel.new (h:Rel P w0 U S w) (o:gV) (ob:Obj) (L:Loc) (hL:L.b=w.heap.size)
 (ho:∀U':Rn,Ext U U'->U' S.n=some L->yQ P w0 U' (w.alloc ob) S.n o)
 (hold:∀i∈o.olds,i<S.n/\∀x,S.obj i=some x->x= .dead\/∃ws e,x= .cells ws e .qV):
 Rel P w0 (U.put S.n L) (S.new o) (w.alloc ob)/\sQ U w (U.put S.n L) (w.alloc ob):=by
 have FG:=h.Pt S.n (bN _);have he:Ext U (U.put S.n L):=Rn.FH FG;have hold:∀k,k<w.heap.size->(w.alloc ob).heap[k]? =w.heap[k]? :=fun k hk=>by show(w.heap.push ob)[k]? =_;rw [PW,if_neg (by omega)]
 have hsz:(w.alloc ob).heap.size=w.heap.size+1:=Lb _
 have oT:∀j M,U.put S.n L j=some M->(j=S.n/\M=L)\/(j≠S.n/\U j=some M):=fun j M hj=>by
  unfold Rn.put at hj;by_cases e:j=S.n
  ·rw [if_pos e]at hj;injection hj with hj;exact .inl ⟨e,hj.symm⟩
  ·rw [if_neg e]at hj;exact .inr ⟨e,hj⟩
 have oL:∀j x,(S.new o).obj j=some x->(j=S.n/\x=o)\/(j≠S.n/\S.obj j=some x):=fun j x hx=>by
  rw [IQ]at hx;by_cases e:j=S.n
  ·rw [if_pos e]at hx;injection hx with hx;exact .inl ⟨e,hx.symm⟩
  ·rw [if_neg e]at hx;exact .inr ⟨e,hx⟩
 refine⟨⟨fun g hg=>let⟨M,h1,h2⟩:=h.ZZ g hg;⟨M,he _ _ h1,h2⟩,fun j x hx=>?_,fun j hj=>?_,fun j x hx=>?_,fun j M hj=>?_,fun i j a b M N KE ha hb hda hdb hM hN ZY=>?_,fun j vs e olds hj i hi=>?_,?_⟩,he,⟨by omega,fun c hc _=>hold c hc⟩,fun j M hj=>?_⟩
 ·rcases oL j x hx with ⟨e,ex⟩ | ⟨e,hx⟩
  ·subst e ex;exact ho _ he (Rn.jN _ _ _)
  ·exact(h.DK j x hx).frame he fun M hM=>hold _ (h.loc j M hM)
 ·have YH:S.n+1<=j:=hj
  unfold Rn.put;rw [if_neg (by omega)];exact h.Pt j (by omega)
 ·rcases oL j x hx with ⟨e,_⟩ | ⟨_,hx⟩
  ·subst e;exact vI _
  ·exact nT (h.lt j x hx)
 ·rcases oT j M hj with ⟨_,e⟩ | ⟨_,hM⟩
  ·subst e;omega
  ·have:=h.loc j M hM;omega
 ·rcases oT i M hM with ⟨ei,eM⟩ | ⟨ei,YG⟩<;>rcases oT j N hN with ⟨ej,eN⟩ | ⟨ej,hN'⟩
  ·omega
  ·have:=h.loc j N hN';rw [eM]at ZY;omega
  ·have:=h.loc i M YG;rw [eN]at ZY;omega
  ·rcases oL i a ha with ⟨e,_⟩ | ⟨_,ha'⟩
   ·exact absurd e ei
   ·rcases oL j b hb with ⟨e,_⟩ | ⟨_,PC⟩
    ·exact absurd e ej
    ·exact h.sep i j a b M N KE ha' PC hda hdb YG hN' ZY
 ·rcases oL j _ hj with ⟨e1,e2⟩ | ⟨e1,YH⟩
  ·subst e1 e2
   obtain⟨h1,h2⟩:=hold i hi;refine⟨nT h1,fun x hx=>?_⟩;rcases oL i x hx with ⟨e3,_⟩ | ⟨_,YE⟩
   ·omega
   ·rcases h2 x YE with h3 | ⟨ws,e',h3⟩
    ·exact .inl h3
    ·refine .inr ⟨ws,e',h3,fun L1 M Hb hM hb=>?_⟩
     rcases oT _ _ Hb with ⟨_,e4⟩ | ⟨e4,_⟩
     ·rcases oT _ _ hM with ⟨e5,_⟩ | ⟨_,YG⟩
      ·omega
      ·have:=h.loc i M YG;rw [e4]at hb;omega
     ·exact absurd rfl e4
  ·obtain⟨h1,h2⟩:=h.old j vs e olds YH i hi
   refine⟨nT h1,fun x hx=>?_⟩;rcases oL i x hx with ⟨e3,_⟩ | ⟨e3,YE⟩
   ·omega
   ·rcases h2 x YE with h3 | ⟨ws,e',h3,h4⟩
    ·exact .inl h3
    ·refine .inr ⟨ws,e',h3,fun L1 M Hb hM hb=>?_⟩
     rcases oT _ _ Hb with ⟨e4,_⟩ | ⟨_,aD3⟩
     ·exact absurd e4 e1
     ·rcases oT _ _ hM with ⟨e5,_⟩ | ⟨_,YG⟩
      ·exact absurd e5 e3
      ·exact h4 L1 M aD3 YG hb
 ·exact⟨h.base.os,h.base.tape,h.base.output,by have:=h.base.size;omega,fun k hk=>(hold k (BC hk h.base.size)).trans (h.base.block k hk)⟩
 ·rcases oT j M hj with ⟨_,e⟩ | ⟨_,hM⟩
  ·subst e;exact .inr (.inl (by omega))
  ·exact .inl hM
theorem Rel.drew (h:Rel P w0 U S w):Rel P w0 U S w.drew:=
 ⟨h.ZZ,fun i o hi=>(h.DK i o hi).frame (.refl U) fun _ _=>rfl,h.Pt,h.lt,h.loc,h.sep,h.old,h.base.os,h.base.tape,h.base.output,h.base.size,h.base.block⟩
theorem sQ.drew (U:Rn) (w:World):sQ U w U w.drew:=⟨.refl U,⟨bN _,fun _ _ _=>rfl⟩,fun _ _ h=> .inl h⟩
theorem Rel.aR (h:Rel P w0 U S w){S':St}{w':World}{b:Nat} (hb:w0.heap.size<=b) (JT:∃i L,U i=some L/\L.b=b) (hn:S'.n=S.n)
 (hsz:w'.heap.size=w.heap.size) (Xv:∀c,c≠b->w'.heap[c]? =w.heap[c]?) (hos:w'.os=w.os) (aMm:w'.tape=w.tape) (Rg:w'.output=w.output)
 (oL:∀j x,S'.obj j=some x->(x.vO=true/\j<S.n)\/(S.obj j=some x/\∀L,U j=some L->L.b≠b)\/(j<S.n/\yQ P w0 U w' j x))
 (aNY:∀i j x y L M,i≠j->S'.obj i=some x->S'.obj j=some y->x.vO=false->y.vO=false->U i=some L->U j=some M->L.b=M.b->aDP i j x y)
 (hold:∀j vs e olds,S'.obj j=some (.cells vs e (.grown olds))->∀i∈olds,i<S.n/\∀o,S'.obj i=some o->Qr U j vs i o):
 Rel P w0 U S' w'/\sQ U w U w':=by
 refine⟨⟨h.ZZ,fun j x hx=>?_,fun j hj=>h.Pt j (by omega),fun j x hx=>?_,fun j L hj=>by rw [hsz];exact h.loc j L hj,aNY,fun j vs e olds hj i hi=>by rw [hn];exact hold j vs e olds hj i hi,?_⟩,.refl U,⟨by omega,fun c _ hc=>?_⟩,fun _ _ h=> .inl h⟩
 ·rcases oL j x hx with ⟨hd,_⟩ | ⟨YE,hL⟩ | ⟨_,hr⟩
  ·cases x<;>simp [gV.vO]at hd;trivial
  ·exact(h.DK j x YE).frame (.refl U) fun L hL'=>Xv _ (hL L hL')
  ·exact hr
 ·rw [hn]
  rcases oL j x hx with ⟨_,hl⟩ | ⟨YE,_⟩ | ⟨hl,_⟩
  ·exact hl
  ·exact h.lt j x YE
  ·exact hl
 ·exact⟨hos.trans h.base.os,aMm.trans h.base.tape,Rg.trans h.base.output,by have:=h.base.size;omega,fun k hk=>(Xv k (by omega)).trans (h.base.block k hk)⟩
 ·obtain⟨i,L,hi,e⟩:=JT
  exact Xv c (fun e'=>hc i L hi (by omega))
end
theorem WO (s:ByteArray):s.toList=s.data.toList:=by
 have h:∀(n i:Nat) (r:List UInt8),s.size-i=n->ByteArray.toList.loop s i r=r.reverse++s.data.toList.drop i:=by
  intro n;induction n with
  | zero=>
   intro i r hn;unfold ByteArray.toList.loop;have:¬i<s.size:=by omega
   rw [if_neg this,List.drop_eq_nil_of_le (by show s.data.toList.length<=i;have:s.size=s.data.toList.length:=rfl;omega),vJ]
  | succ n ih=>
   intro i r hn;unfold ByteArray.toList.loop;have hi:i<s.size:=by omega
   rw [if_pos hi,ih (i+1) _ (by omega)];have hl:i<s.data.toList.length:=hi;rw [BB hl];have e:s.data[i]! =s.data.toList[i]:=by rw [getElem!_pos s.data i hi];rfl
   simp [ByteArray.get!,e]
 have:=h s.size 0 [] (by omega);simpa [ByteArray.toList]using this
section
variable{K:Value->Bool}
theorem DN (x y:Int):Hf x y=decide (x<y):=by
 cases x<;>cases y<;>simp only [Hf,Nat.blt]<;>(rw [pL];simp only [decide_eq_true_eq,Nat.ble_eq];(try simp);omega)
theorem tD (x y:Int):Au x y=(x==y):=by
 cases x<;>cases y<;>simp only [Au]<;>(rw [pL];simp only [WA,beq_iff_eq];(try simp);try omega)
theorem DL{j k:IntKind} (h:yM j k=true):j=k:=by cases j<;>cases k<;>first | rfl | (simp [yM]at h)
theorem SW (k:IntKind) (n:Int) (h0:k.min<=n) (h1:n<=k.max):k.wrap n=n:=by
 cases k<;>simp [IntKind.min,IntKind.max,IntKind.bits,IntKind.signed]at h0 h1<;>simp [IntKind.wrap,IntKind.bits,IntKind.signed]<;>omega
theorem LI (k:IntKind) (n:Int):dW k n=k.wrap n:=by
 have hb:∀m c:Nat,Nat.blt m c=true->m<c:=fun m c h=>bE h;have e1:IntKind.i64.min= -9223372036854775808:=by decide
 have e2:IntKind.i64.max=9223372036854775807:=by decide
 have e3:IntKind.u64.min=0:=by decide
 have e4:IntKind.u64.max=18446744073709551615:=by decide
 have e5:IntKind.u8.min=0:=by decide
 have e6:IntKind.u8.max=255:=by decide
 cases k
 case i64=>
  cases n with
  | ofNat m=>
   unfold dW;dsimp only;split
   ·rename_i h;have:=hb _ _ h;exact(SW .i64 (m:Int) (by omega) (by omega)).symm
   ·rfl
  | negSucc m=>
   unfold dW;dsimp only;split
   ·rename_i h;have:=hb _ _ h;exact(SW .i64 (Int.negSucc m) (by omega) (by omega)).symm
   ·rfl
 case u64=>
  cases n with
  | ofNat m=>
   unfold dW;dsimp only;split
   ·rename_i h;have:=hb _ _ h;exact(SW .u64 (m:Int) (by omega) (by omega)).symm
   ·rfl
  | negSucc m=>rfl
 case u8=>
  cases n with
  | ofNat m=>
   unfold dW;dsimp only;split
   ·rename_i h;have:=hb _ _ h;exact(SW .u8 (m:Int) (by omega) (by omega)).symm
   ·rfl
  | negSucc m=>rfl
 all_goals rfl
theorem Mc (k:IntKind) (n:Int):GH k n K=K (.int k (k.wrap n)):=by simp [GH,mI,LI]
theorem pD (b:Bool):mX b K=K (.bool b):=by simp [mX,nQ]
theorem Ho{op:BinOp}{k:IntKind}{x y:Int} (h:IL op k x y K=true):
 ∃v,K v=true/\bA v=true/\op≠ .shl/\op≠ .shr/\∀(P:Program) (t:TypeId) (w:World),(binOp op t (.int k x) (.int k y)).run P w= .ok v w:=by
 have ea:∀a b:Int,Int.add a b=a+b:=fun _ _=>rfl;have es:∀a b:Int,Int.sub a b=a-b:=fun _ _=>rfl;have em:∀a b:Int,Int.mul a b=a*b:=fun _ _=>rfl;cases op<;>simp only [IL,Mc,pD,mI,DN,tD,ea,es,em]at h
 case quo=>
  split at h
  ·cases h
  ·rename_i hy
   have hy':y≠0:=by simpa using hy
   exact⟨_,h,rfl,by simp,by simp,fun P t w=>by simp [binOp,Op.intDiv,hy']⟩
 case rem=>
  split at h
  ·cases h
  ·rename_i hy
   have hy':y≠0:=by simpa using hy
   exact⟨_,h,rfl,by simp,by simp,fun P t w=>by simp [binOp,Op.intDiv,hy']⟩
 all_goals first
  | cases h;done
  | exact⟨_,h,rfl,by simp,by simp,fun P t w=>by first | (simp [binOp,Op.intArith,Op.intBits,Op.intCmp,bne];done) | (simp [binOp,Op.intCmp];rw [pL];simp)⟩
theorem SX{op:BinOp}{k k':IntKind}{x y:Int} (h:QF op k x y K=true):
 ∃v,K v=true/\bA v=true/\∀(P:Program) (t:TypeId) (w:World),(binOp op t (.int k x) (.int k' y)).run P w= .ok v w:=by
 unfold QF at h;rw [DN]at h;split at h
 ·cases h
 ·rename_i hy
  have hy':¬y<0:=by simpa using hy
  cases op<;>simp only [Mc,mI]at h<;>first
   | cases h;done
   | exact⟨_,h,rfl,fun P t w=>by simp [binOp,Op.shift,hy']⟩
end
section
variable{K:Value->Bool}
theorem NT (a b:UInt8):Nat.beq a.toNat b.toNat=true↔a=b:=by
 rw [WA];exact⟨fun h=>UInt8.toNat_inj.1 h,fun h=>by rw [h]⟩
theorem CF (a b:List UInt8):ZW a b=(a==b):=by
 induction a generalizing b with
 | nil=>cases b<;>rfl
 | cons x a ih=>
  cases b with
  | nil=>rfl
  | cons y b=>
   show(match Nat.beq x.toNat y.toNat with | true=>ZW a b | false=>false)=_;cases h:Nat.beq x.toNat y.toNat with
   | true=>simp only [ih];have:=(NT x y).1 h;subst this;simp
   | false=>
    have:x≠y:=fun e=>by rw [(NT x y).2 e]at h;cases h
    simp [this]
theorem aA5 (a b:List UInt8):aBZ a b=Op.bytesLess a b:=by
 induction a generalizing b with
 | nil=>cases b<;>rfl
 | cons x a ih=>
  cases b with
  | nil=>rfl
  | cons y b=>
   show(match Nat.blt x.toNat y.toNat with | true=>true | false=>match Nat.beq x.toNat y.toNat with | true=>aBZ a b | false=>false)=_;simp only [Op.bytesLess];cases h:Nat.blt x.toNat y.toNat with
   | true=>
    have:x<y:=by rw [UInt8.lt_iff_toNat_lt];have:=bE h;omega
    simp [this]
   | false=>
    have:¬x<y:=by
     rw [UInt8.lt_iff_toNat_lt];intro hh;have:Nat.blt x.toNat y.toNat=true:=iW hh;rw [this]at h;cases h
    cases h2:Nat.beq x.toNat y.toNat with
    | true=>have e:=(NT x y).1 h2;subst e;simp [ih]
    | false=>
     have e:x≠y:=fun e=>by rw [(NT x y).2 e]at h2;cases h2
     simp [this,e]
theorem aCf (a b:ByteArray):a++b=⟨⟨a.data.toList++b.data.toList⟩⟩:=by
 apply ByteArray.ext;apply gW.1;simp
theorem Hq{op:BinOp}{x y:ByteArray} (h:Ld op x y K=true):
 ∃v,K v=true/\bA v=true/\∀(P:Program) (t:TypeId) (w:World),(binOp op t (.string x) (.string y)).run P w= .ok v w:=by
 cases op<;>simp only [Ld,pD,CF,aA5]at h
 case add=>
  simp only [jT]at h;split at h
  ·rename_i hb
   rw [kL]at h;have hlt:x.size+y.size<9223372036854775808:=by have:=bE hb;have e1:x.size=x.data.toList.length:=rfl;have e2:y.size=y.data.toList.length:=rfl;omega
   refine⟨_,h,rfl,fun P t w=>?_⟩;simp [binOp,Op.stringOp,aCf];omega
  ·cases h
 all_goals first
  | cases h;done
  | exact⟨_,h,rfl,fun P t w=>by simp [binOp,Op.stringOp,WO]⟩
end
theorem lF (b off n:Nat):(⟨b,off,none⟩:Addr).add n=⟨b,off+n,none⟩:=by
 unfold Addr.add;split
 ·rename_i h;subst h;rfl
 ·rfl
section
variable{P:Program}{w:World}
theorem run_loadCellsFrom (a:Addr):∀(m:List Value) (i:Nat) (acc:Array Value),(∀(j:Nat) (v:Value),m[j]? =some v->w.cell? (a.add (i+j))=some v)->
 (loadCellsFrom a i m.length acc).run P w= .ok (acc++m.toArray) w:=by
 intro m;induction m with
 | nil=>intro i acc _;simp [loadCellsFrom]
 | cons v m ih=>
  intro i acc h;have h0:=h 0 v rfl;rw [II]at h0
  have h1:=ih (i+1) (acc.push v) fun j x hj=>by
   have:=h (j+1) x (by simpa using hj)
   rwa [show i+(j+1)=i+1+j by omega]at this
  simp [loadCellsFrom,h0,h1]
theorem run_loadCells (a:Addr) (m:List Value){n:Nat} (hn:m.length=n) (h:∀(j:Nat) (v:Value),m[j]? =some v->w.cell? (a.add j)=some v):
 (loadCells a n).run P w= .ok ⟨m⟩ w:=by
 subst hn;have:=run_loadCellsFrom (P:=P) a m 0 #[] (by simpa using h);simpa [loadCells]using this
theorem Sg{b off:Nat}{cs:Array Value}{t:TypeId}{fz:Nat×Nat} (h:w.heap[b]? =some (.cells cs t fz)) (v:Value):
 w.setCell ⟨b,off,none⟩ v=w.putObj b (.cells (cs.setIfInBounds off v) t fz):=by
 unfold World.setCell World.putObj
 congr 1
 apply VM;intro k;rw [Wx,Wt];by_cases e:b=k
 ·subst e
  obtain⟨hlt,hb⟩:=mN.1 h;simp [hb,hlt]
 ·simp [e]
theorem Ht (b:Nat) (x y:Obj):(w.putObj b x).putObj b y=w.putObj b y:=by
 unfold World.putObj
 congr 1
 apply VM;intro k;simp only [Wt,Wu];by_cases e:b=k<;>simp [e]
theorem MD{b:Nat}{x:Obj} (h:w.heap[b]? =some x):w.putObj b x=w:=by
 unfold World.putObj
 have:w.heap.setIfInBounds b x=w.heap:=by
  apply VM;intro k;rw [Wt];by_cases e:b=k
  ·subst e
   obtain⟨hlt,hb⟩:=mN.1 h;simp [hb,hlt]
  ·simp [e]
 rw [this]
theorem lH{b:Nat}{x y:Obj} (h:w.heap[b]? =some y):(w.putObj b x).heap[b]? =some x:=World.putObj_heap_same (mN.1 h).1
theorem gH{b c:Nat}{x:Obj} (h:c≠b):(w.putObj b x).heap[c]? =w.heap[c]? :=World.putObj_heap_other h
theorem putObj_size (b:Nat) (x:Obj):(w.putObj b x).heap.size=w.heap.size:=by simp [World.putObj]
theorem gY:∀(new:List Value) (w:World) (b off i:Nat) (cs:Array Value) (t:TypeId) (fz:Nat×Nat),w.heap[b]? =some (.cells cs t fz)->off+i+new.length<=cs.size->
 (∀x,off+i<=x->x<off+i+new.length->¬(fz.1<=x/\x<fz.2))->(∀v∈new,v.oneCell'=true)->
 (storeCells ⟨b,off,none⟩ new i).run P w= .ok () (w.putObj b (.cells ⟨aG (off+i) new cs.toList⟩ t fz)):=by
 intro new;induction new with
 | nil=>
  intro w b off i cs t fz h hs _ _;have e:aG (off+i) [] cs.toList=cs.toList:=by simp [aG]
  rw [e];simp [storeCells,MD h]
 | cons v new ih=>
  intro w b off i cs t fz h hs hfz h1;have hlt:off+i<cs.size:=by simp at hs;omega
  have hc:w.cell? ⟨b,off+i,none⟩=some cs[off+i]:=by simp [World.cell?,h,hlt]
  have hf:w.frozen? ⟨b,off+i,none⟩=false:=by
   have:=hfz (off+i) (bN _) (by simp);simp only [World.frozen?,h];simpa using this
  have dD:(store (⟨b,off+i,none⟩:Addr) v).run P w= .ok () (w.putObj b (.cells (cs.setIfInBounds (off+i) v) t fz)):=by
   rw [run_store P w _ v .plain (h1 v (by simp)),hc,hf,Sg h];rfl
  have hih:=ih (w.putObj b (.cells (cs.setIfInBounds (off+i) v) t fz)) b off (i+1) (cs.setIfInBounds (off+i) v) t fz (lH h)
   (by simp at hs ⊢;omega) (fun x hx hy=>hfz x (by omega) (by simp;omega)) (fun u hu=>h1 u (by simp [hu]))
  have es:aG (off+(i+1)) new (cs.setIfInBounds (off+i) v).toList=aG (off+i) (v::new) cs.toList:=by
   apply uH;intro j;have hl:cs.toList.length=cs.size:=rfl;rw [fL _ _ _ (by simp at hs ⊢;omega),fL _ _ _ (by simp at hs ⊢;omega)];simp only [PU,rZ];by_cases h2:j=off+i
   ·subst h2
    rw [if_neg (by omega),if_pos (by omega),Nat.sub_self];simp [hlt]
   ·by_cases h3:off+(i+1)<=j/\j<off+(i+1)+new.length
    ·rw [if_pos h3,if_pos (by omega)]
     obtain⟨q,rfl⟩:∃q,j=off+i+(q+1):=⟨j-(off+i+1),by omega⟩;rw [show off+i+(q+1)-(off+(i+1))=q by omega,show off+i+(q+1)-(off+i)=q+1 by omega];simp
    ·rw [if_neg h3,if_neg (by omega),PV (by omega)]
  simp only [storeCells,lF];rw [bY,dD,dK,hih,Ht,es]
end
section
variable{P:Program}{w0:World}{U:Rn}{S:St}{w:World}
theorem Rel.cells (h:Rel P w0 U S w){i:Nat}{vs:List Value}{e:TypeId}{k:CK} (ho:S.obj i=some (.cells vs e k)){L:Loc} (hL:U i=some L):
 ∃cs t fz,w.heap[L.b]? =some (.cells cs t fz)/\(∀(j:Nat) (v:Value),vs[j]? =some v->∃v',cs[L.s+j]? =some v'/\VR U v v')/\Lx P w0 L cs vs.length fz e t k:=by
 obtain⟨M,cs,t,fz,h1,h2,h3,h4⟩:=h.DK i _ ho;rw [hL]at h1;injection h1 with h1;subst h1;exact⟨cs,t,fz,h2,h3,h4⟩
theorem cell_of{b:Nat}{cs:Array Value}{t:TypeId}{fz:Nat×Nat} (h:w.heap[b]? =some (.cells cs t fz)){j:Nat}{v:Value} (hj:cs[j]? =some v):w.cell? ⟨b,j,none⟩=some v:=by
 simp [World.cell?,h,hj]
theorem Rel.vW (h:Rel P w0 U S w){i:Nat}{vs:List Value}{e:TypeId}{k:CK} (ho:S.obj i=some (.cells vs e k)){L:Loc} (hL:U i=some L){off n:Nat} (hn:off+n<=vs.length):
 ∃l',kK U ((vs.drop off).take n) l'/\l'.length=n/\∀(j:Nat) (v:Value),l'[j]? =some v->w.cell? ((⟨L.b,L.s+off,none⟩:Addr).add j)=some v:=by
 obtain⟨cs,t,fz,h2,h3,_⟩:=h.cells ho hL;refine⟨(List.range n).map fun j=>cs.getD (L.s+(off+j)) undef,⟨by simp;omega,fun j v v' a b=>?_⟩,by simp,fun j v hj=>?_⟩
 ·rw [kZ]at a
  split at a
  ·rename_i hj
   rw [kI]at a;obtain⟨u,hu,hr⟩:=h3 _ v a;simp [hj]at b;have:cs.getD (L.s+(off+j)) undef=u:=by simp [Kk,hu]
   simp [Kk]at this;rw [<-b,this];exact hr
  ·cases a
 ·have YH:j<n:=by have:=(cZ.1 hj).1;simpa using this
  simp [YH]at hj;have hlt:off+j<vs.length:=by omega
  obtain⟨u,hu,_⟩:=h3 (off+j) vs[off+j] (aS hlt);rw [lF,show L.s+off+j=L.s+(off+j)by omega];rw [cell_of h2 hu]
  congr 1
  rw [<-hj];simp [hu]
theorem Rel.Ed (h:Rel P w0 U S w){i:Nat}{vs:List Value}{e:TypeId}{k:CK} (ho:S.obj i=some (.cells vs e k)){L:Loc} (hL:U i=some L){o:Nat}{v:Value} (hv:vs[o]? =some v):
 ∃v',w.cell? ⟨L.b,L.s+o,none⟩=some v'/\VR U v v':=by
 obtain⟨cs,t,fz,h2,h3,_⟩:=h.cells ho hL;obtain⟨u,hu,hr⟩:=h3 o v hv;exact⟨u,cell_of h2 hu,hr⟩
theorem DH{t:TypeId}{b:Bool} (h:sY P t=some b) (w:World):(isAgg t).run P w= .ok b w:=by
 unfold sY at h;cases hu:P.underlying t with
 | none=>simp [hu]at h
 | some d=>
  simp [hu]at h;simp only [isAgg,bY,run_underlying hu,dK];subst h;cases d<;>rfl
theorem gD{t:TypeId}{n:Nat} (h:bP P t=some n) (w:World):(sizeOf t).run P w= .ok n w:=by
 unfold bP at h;cases hu:P.info? t with
 | none=>simp [hu]at h
 | some i=>simp [hu]at h;simp [sizeOf,typeInfo,hu,h]
theorem aDN{t:TypeId}{i:TypeInfo} (h:P.info? t=some i) (w:World):(typeInfo t).run P w= .ok i w:=by simp [typeInfo,h]
theorem yP{t:TypeId}{z:List Value} (h:sH P t=some z) (w:World):∃v,(zeroValue t).run P w= .ok v w/\v.cells.toList=z:=by
 unfold sH at h;cases hu:P.info? t with
 | none=>simp [hu]at h
 | some i=>
  cases hz:i.zero with
  | none=>simp [hu,hz]at h
  | some v=>simp [hu,hz]at h;exact⟨v,by simp [zeroValue,typeInfo,hu,hz],h⟩
theorem LR (h:Rel P w0 U S w){t:TypeId}{a a':Value}{K:VK} (hk:GQ P t a S K=true) (ha:VR U a a'):
 ∃v v',K v S=true/\VR U v v'/\(Instr.loadAt t a').run P w= .ok v' w:=by
 unfold GQ at hk;split at hk
 ·rename_i i o
  cases ha with
  | flat h=>simp [bA]at h
  | ptr hL=>
   rename_i L;split at hk
   ·rename_i Xi
    obtain⟨vs,e,c,ho,hk⟩:=tI hk;obtain⟨v,hv,hk⟩:=GV hk;obtain⟨v',hc,hr⟩:=h.Ed ho hL hv;refine⟨v,v',hk,hr,?_⟩;simp [Instr.loadAt,Instr.sureAddr,loadVar,DH Xi,hc]
   ·rename_i Xi
    split at hk
    ·rename_i n hsz
     obtain⟨vs,e,c,ho,hn,hk⟩:=rG hk;obtain⟨l',hr,hl,hc⟩:=h.vW ho hL hn;refine⟨_,.agg ⟨l'⟩,hk,.Lh hr,?_⟩;simp [Instr.loadAt,Instr.sureAddr,loadVar,DH Xi,gD hsz,run_loadCells _ l' hl hc]
    ·cases hk
   ·cases hk
 ·cases hk
end
section
variable{P:Program}{w0:World}{U:Rn}{S:St}{w:World}
theorem Jb:∀{new l:List Value},WB new l=true->(∀v∈new,bA v=true)/\∀(j:Nat) (v:Value),new[j]? =some v->l[j]? =some v:=by
 intro new;induction new with
 | nil=>intro l _;exact⟨by simp,by simp⟩
 | cons a new ih=>
  intro l h;unfold WB at h;rw [aO]at h;cases l with
  | nil=>cases h
  | cons b t=>
   have h2:(match(generalizing:=false) a,b with
    | .int j x,.int k y=>match yM j k with
     | true=>match Au x y with | true=>WB new t | false=>false
     | false=>false
    | _,_=>false)=true:=h
   split at h2
   ·split at h2
    ·rename_i hk
     split at h2
     ·rename_i hx
      have e1:=DL hk;rw [tD]at hx;have e2:=eq_of_beq hx;subst e1 e2;have h:WB new t=true:=h2;obtain⟨i1,i2⟩:=ih h;refine⟨fun v hv=>?_,fun j v hj=>?_⟩
      ·rcases cO.1 hv with e | hv
       ·subst e;rfl
       ·exact i1 v hv
      ·cases j with
       | zero=>simpa using hj
       | succ j=>simpa using i2 j v (by simpa using hj)
     ·cases h2
    ·cases h2
   ·cases h2
theorem tU (h:Rel P w0 U S w){i off:Nat}{new new':List Value}{k:St->Bool} (hk:oS S i off new k=true){L:Loc} (hL:U i=some L)
 (hn:kK U new new') (h1:∀v∈new',v.oneCell'=true):
 ∃S' w',k S'=true/\Rel P w0 U S' w'/\sQ U w U w'/\(storeCells ⟨L.b,L.s+off,none⟩ new').run P w= .ok () w':=by
 obtain⟨vs,e,c,ho,hk⟩:=tI hk;obtain⟨cs,t,fz,hb,hcell,pS⟩:=h.cells ho hL
 have key:∀(S':St) (kd:CK) (olds:List Nat),S'.n=S.n->(∀j,S'.obj j=if j=i then some (.cells (aG off new vs) e kd)else if j∈olds then some .dead else S.obj j)->
  off+new.length<=vs.length->w0.heap.size<=L.b->WI cs.size fz->(gV.cells vs e c).reads=false->(∀l,kd= .grown l->l=[])->(gV.cells vs e c).olds=olds->(gV.cells (aG off new vs) e kd).reads=false->
  (∀j∈olds,j<S.n)->
  (∀cs':Array Value,cs'.size=cs.size->Lx P w0 L cs' vs.length fz e t kd)->
  Rel P w0 U S' (w.putObj L.b (.cells ⟨aG (L.s+off) new' cs.toList⟩ t fz))/\sQ U w U (w.putObj L.b (.cells ⟨aG (L.s+off) new' cs.toList⟩ t fz))/\
   (storeCells ⟨L.b,L.s+off,none⟩ new').run P w= .ok () (w.putObj L.b (.cells ⟨aG (L.s+off) new' cs.toList⟩ t fz)):=by
  intro S' kd olds hSn oL hlen hB hth MF hkd holds aNM aJY hKR
  have Ac:∀j,j<vs.length->L.s+j<cs.size:=fun j hj=>by
   obtain⟨v',CC,_⟩:=hcell j vs[j] (aS hj);exact(mN.1 CC).1
  have KF:new.length=0\/L.s+off+new'.length<=cs.size:=by
   rcases IG new.length with hz | hz
   ·exact .inl hz
   ·right
    have:=Ac (off+new.length-1) (by omega);rw [<-hn.1];omega
  have vL:cs.toList.length=cs.size:=rfl
  have hsz:(⟨aG (L.s+off) new' cs.toList⟩:Array Value).size=cs.size:=by
   rcases KF with hz | hz
   ·have:new'=[]:=lZ (by rw [<-hn.1];exact hz)
    subst this;simp [aG]
   ·show(aG (L.s+off) new' cs.toList).length=_
    rw [kG _ _ _ (by omega)];exact vL
  have Ab:∀j:Nat,(⟨aG (L.s+off) new' cs.toList⟩:Array Value)[j]? =if L.s+off<=j/\j<L.s+off+new'.length then new'[j-(L.s+off)]? else cs[j]? :=by
   intro j;rcases KF with hz | hz
   ·have:new'=[]:=lZ (by rw [<-hn.1];exact hz)
    subst this;rw [if_neg (by simp)];simp [aG]
   ·have:=fL (L.s+off) new' cs.toList (by omega) j
    simpa using this
  have Ct:yQ P w0 U (w.putObj L.b (.cells ⟨aG (L.s+off) new' cs.toList⟩ t fz)) i (.cells (aG off new vs) e kd):=by
   refine⟨L,_,t,fz,hL,lH hb,fun j v hj=>?_,by rw [kG _ _ _ hlen];exact hKR _ hsz⟩;rw [fL _ _ _ hlen]at hj;rw [Ab];split at hj
   ·rename_i hr
    rw [if_pos (by have:=hn.1;omega)];obtain⟨v',CC,hr'⟩:=hn.get hj;exact⟨v',by rw [show L.s+j-(L.s+off)=j-off by omega];exact CC,hr'⟩
   ·rename_i hr
    rw [if_neg (by have:=hn.1;omega)];exact hcell j v hj
  have Ye:∀j x M,j≠i->j∉olds->S.obj j=some x->x.vO=false->U j=some M->M.b≠L.b:=by
   intro j x M hj hjo hx hd hM PC;rcases h.sep i j _ x L M (dV hj) ho hx rfl hd hL hM PC.symm with ⟨hr,_⟩ | hs | hs
   ·rw [MF]at hr;cases hr
   ·rw [holds]at hs;exact hjo hs
   ·cases x with
    | cells ws e' kk=>
     cases kk with
     | grown l=>
      obtain⟨_,h2⟩:=h.old j ws e' l hx i hs;rcases h2 _ ho with h3 | ⟨_,_,h3,_⟩
      ·cases h3
      ·injection h3 with _ _ h3;subst h3;simp [gV.reads]at MF
     | _=>simp [gV.olds]at hs
    | _=>simp [gV.olds]at hs
  have wX:∀j x,S'.obj j=some x->(j=i/\x= .cells (aG off new vs) e kd)\/(j≠i/\j∈olds/\x= .dead)\/(j≠i/\j∉olds/\S.obj j=some x):=by
   intro j x hx;rw [oL]at hx;by_cases e1:j=i
   ·rw [if_pos e1]at hx;injection hx with hx;exact .inl ⟨e1,hx.symm⟩
   ·rw [if_neg e1]at hx
    by_cases e2:j∈olds
    ·rw [if_pos e2]at hx;injection hx with hx;exact .inr (.inl ⟨e1,e2,hx.symm⟩)
    ·rw [if_neg e2]at hx;exact .inr (.inr ⟨e1,e2,hx⟩)
  have hrel:=h.aR (S':=S') (w':=w.putObj L.b (.cells ⟨aG (L.s+off) new' cs.toList⟩ t fz)) (b:=L.b) hB ⟨i,L,hL,rfl⟩ hSn (putObj_size _ _) (fun c hc=>gH hc) rfl rfl rfl
   (fun j x hx=>by
    rcases wX j x hx with ⟨e1,e2⟩ | ⟨e1,e2,e3⟩ | ⟨e1,e2,YE⟩
    ·subst e1 e2;exact .inr (.inr ⟨h.lt _ _ ho,Ct⟩)
    ·subst e3;exact .inl ⟨rfl,aJY _ e2⟩
    ·cases hd:x.vO with
     | true=>exact .inl ⟨rfl,h.lt _ _ YE⟩
     | false=>exact .inr (.inl ⟨YE,fun M hM=>Ye j x M e1 e2 YE hd hM⟩))
   (fun p q x y M N hpq hx hy hdx hdy hM hN ZY=>by
    rcases wX p x hx with ⟨e1,e2⟩ | ⟨_,_,e3⟩ | ⟨e1,e2,YE⟩
    ·rcases wX q y hy with ⟨f1,_⟩ | ⟨_,_,f3⟩ | ⟨f1,f2,hy'⟩
     ·exact absurd (e1.trans f1.symm) hpq
     ·subst f3;cases hdy
     ·subst e1;rw [hL]at hM;injection hM with hM;subst hM
      exact absurd ZY.symm (Ye q y N f1 f2 hy' hdy hN)
    ·subst e3;cases hdx
    ·rcases wX q y hy with ⟨f1,_⟩ | ⟨_,_,f3⟩ | ⟨f1,f2,hy'⟩
     ·subst f1;rw [hL]at hN;injection hN with hN;subst hN
      exact absurd ZY (Ye p x M e1 e2 YE hdx hM)
     ·subst f3;cases hdy
     ·exact h.sep p q x y M N hpq YE hy' hdx hdy hM hN ZY)
   (fun j ws e' l hj q hq=>by
    rcases wX j _ hj with ⟨e1,e2⟩ | ⟨_,_,e3⟩ | ⟨e1,e2,YH⟩
    ·injection e2 with _ _ e2
     have:=hkd l e2.symm;subst this;cases hq
    ·cases e3
    ·obtain⟨g1,g2⟩:=h.old j ws e' l YH q hq
     refine⟨g1,fun o hqo=>?_⟩;rcases wX q o hqo with ⟨f1,f2⟩ | ⟨_,_,f3⟩ | ⟨_,_,hq'⟩
     ·subst f1
      rcases g2 _ ho with g3 | ⟨_,_,g3,_⟩
      ·cases g3
      ·injection g3 with _ _ g3;subst g3;simp [gV.reads]at MF
     ·exact .inl f3
     ·exact g2 o hq')
  refine⟨hrel.1,hrel.2,?_⟩;rcases KF with hz | hz
  ·have:new'=[]:=lZ (by rw [<-hn.1];exact hz)
   subst this;have e1:aG (L.s+off) [] cs.toList=cs.toList:=by simp [aG]
   rw [e1,MD hb];simp [storeCells]
  ·have:=gY (P:=P) new' w L.b (L.s+off) 0 cs t fz hb (by omega) (fun x hx hy=>hth x (by omega)) h1
   simpa using this
 have aMy:WB new (vs.drop off)=true->k S=true->(∀j,j<vs.length->¬(fz.1<=L.s+j/\L.s+j<fz.2))->
  ∃S' w',k S'=true/\Rel P w0 U S' w'/\sQ U w U w'/\(storeCells ⟨L.b,L.s+off,none⟩ new').run P w= .ok () w':=by
  intro hs tC hth;obtain⟨s1,s2⟩:=Jb hs
  have hnn:new'=new:=by
   apply uH;intro j;cases hj:new[j]? with
   | none=>exact hn.get_none hj
   | some v=>
    obtain⟨v',CC,hr⟩:=hn.get hj;rw [CC,hr.of_flat (s1 v (rB hj))]
  subst hnn
  have QV:∀j v,new'[j]? =some v->cs[L.s+off+j]? =some v:=fun j v hj=>by
   obtain⟨v',CC,hr⟩:=hcell (off+j) v (by have:=s2 j v hj;rw [kI]at this;exact this);rw [<-sX]at CC;rw [CC,hr.of_flat (s1 v (rB hj))]
  have aN5:∀j,j<new'.length->off+j<vs.length:=fun j hj=>by
   have:=s2 j new'[j] (aS hj);rw [kI]at this;exact(cZ.1 this).1
  rcases IG new'.length with hz | hz
  ·have:new'=[]:=lZ hz
   subst this;exact⟨S,w,tC,h,.refl U w,by simp [storeCells]⟩
  ·have hle:L.s+off+new'.length<=cs.size:=by
    have:=QV (new'.length-1) _ (aS (by omega));have:=(mN.1 this).1;omega
   have dD:=gY (P:=P) new' w L.b (L.s+off) 0 cs t fz hb (by omega) (fun x hx hy=>by
    have:=hth (x-L.s) (by have:=aN5 (x-L.s-off) (by omega);omega)
    rwa [show L.s+(x-L.s)=x by omega]at this) h1
   have AA:aG (L.s+off) new' cs.toList=cs.toList:=by
    apply uH;intro j;rw [fL _ _ _ (by simpa using hle)];split
    ·rename_i hj
     rw [aS (by omega)];have:=QV (j-(L.s+off)) _ (aS (by omega));rw [show L.s+off+(j-(L.s+off))=j by omega]at this;simpa using this.symm
    ·rfl
   refine⟨S,w,tC,h,.refl U w,?_⟩;have e:w.putObj L.b (.cells ⟨aG (L.s+off) new' cs.toList⟩ t fz)=w:=by rw [AA];exact MD hb
   simpa [e]using dD
 cases c with
 | exact=>
  simp only [vM]at hk;split at hk
  ·rename_i hlen
   rw [fZ]at hk;obtain⟨g1,g2,g3,g4⟩:=pS
   obtain⟨r1,r2,r3⟩:=key (S.set i (.cells (aG off new vs) e .exact)) .exact [] rfl (fun j=>by rw [zQ];simp) hlen g1 g4.1.to rfl (by simp) rfl rfl (by simp)
    (fun cs' aHd=>⟨g1,g2,by omega,by rw [aHd];exact g4⟩)
   exact⟨_,_,hk,r1,r2,r3⟩
  ·cases hk
 | grown olds=>
  have tC:(FB off vs fun l=>match WB new l with | true=>k S | false=>qA off new vs fun vs=>Ii olds S.h fun h=>OJ (.cells vs e (.grown [])) (Nat.succ i) h i fun h=>k ⟨h,S.n⟩)=true:=hk;clear hk;rw [wW]at tC;split at tC
  ·cases hs:WB new (vs.drop off)with
   | true=>
    rw [hs]at tC;obtain⟨g1,g2,g3,g4⟩:=pS;refine aMy hs tC fun j hj=>g2 _ ?_;obtain⟨v',CC,_⟩:=hcell j _ (aS hj);exact(mN.1 CC).1
   | false=>
    rw [hs]at tC;have hk:=tC;clear tC;simp only [vM]at hk;split at hk
    ·rename_i hlen
     rw [Qv,IR]at hk;obtain⟨g1,g2,g3,g4⟩:=pS
     obtain⟨r1,r2,r3⟩:=key ⟨Tr.CA (gV.cells (aG off new vs) e (CK.grown [])) i.succ (olds.foldl (fun h i=>h.put i gV.dead) S.h) i,S.n⟩ (.grown []) olds rfl (fun j=>by
      show Tr.get (Tr.CA _ (i+1) _ i) j=_;rw [Dh _ _ _ _ _ (vI i),Qw];rfl) hlen g1 g2 rfl (fun l hl=>by injection hl with hl;exact hl.symm) rfl rfl
      (fun j hj=>(h.old i vs e olds ho j hj).1) (fun cs' aHd=>⟨g1,by rw [aHd];exact g2,by rw [aHd];exact g3,g4⟩)
     exact⟨_,_,hk,r1,r2,r3⟩
    ·cases hk
  ·cases tC
 | rs=>
  have tC:(FB off vs fun l=>match WB new l with | true=>k S | false=>false)=true:=hk;rw [wW]at tC;split at tC
  ·cases hs:WB new (vs.drop off)with
   | true=>rw [hs]at tC;exact aMy hs tC pS.2
   | false=>rw [hs]at tC;cases tC
  ·cases tC
 | qV=>cases hk
 | ro=>cases hk
theorem zO{v:Value}{k:List Value->Bool} (hk:nW v k=true){v':Value} (hv:VR U v v'):
 ∃cs,k cs=true/\(∀x∈cs,fR x=true)/\kK U cs v'.cells.toList/\cs=v.cells.toList:=by
 unfold nW at hk;split at hk
 ·rename_i cs
  rw [jJ]at hk;split at hk
  ·rename_i ha
   obtain⟨a',rfl,hl⟩:=hv.FC;exact⟨_,hk,dL.1 ha,hl,rfl⟩
  ·cases hk
 ·cases hk
 ·rename_i h1 h2
  have hc:v.cells= #[v]:=by cases v<;>first | rfl | exact absurd rfl (h1 _)
  have ho:fR v=true:=by cases v<;>first | rfl | exact absurd rfl (h1 _) | exact absurd rfl (h2 _)
  have hc':v'.cells= #[v']:=by have:=hv.fR ho;cases v'<;>first | rfl | (simp [Value.oneCell']at this)
  exact⟨_,hk,by simpa using ho,by rw [hc'];exact .cons hv (.nil U),by rw [hc]⟩
theorem GX{l l':List Value} (h:kK U l l') (h1:∀x∈l,fR x=true):∀v∈l',v.oneCell'=true:=by
 intro v hv;obtain⟨j,hj⟩:=IF hv;have hlt:j<l.length:=by rw [h.1];exact(cZ.1 hj).1
 exact(h.2 j l[j] v (aS hlt) hj).fR (h1 _ (sW _))
theorem Ls (h:Rel P w0 U S w){t:TypeId}{a a' x x':Value}{k:St->Bool} (hk:QG P t a x S k=true) (ha:VR U a a') (hx:VR U x x'):
 ∃S' w',k S'=true/\Rel P w0 U S' w'/\sQ U w U w'/\(Instr.storeAt t a' x').run P w= .ok () w':=by
 unfold QG at hk;split at hk
 ·rename_i i o
  cases ha with
  | flat h=>simp [bA]at h
  | ptr hL=>
   rename_i L;split at hk
   ·rename_i n hsz
    obtain⟨cs,hk,h1,vL,_⟩:=zO hk hx;rw [jT]at hk;split at hk
    ·rename_i hn
     have hn':cs.length=n:=cV hn;obtain⟨S',w',tT,r1,r2,r3⟩:=tU h hk hL vL (GX vL h1);refine⟨S',w',tT,r1,r2,?_⟩;have Sh:x'.cells.size=n:=by rw [<-hn',vL.1];rfl
     simp [Instr.storeAt,Instr.sureAddr,storeVar,gD hsz,Sh,r3]
    ·cases hk
   ·cases hk
 ·cases hk
theorem Rel.aDM (h:Rel P w0 U S w){cs cs':List Value} (vL:kK U cs cs') (t:TypeId) (m:Nat):
 Rel P w0 (U.put S.n ⟨w.heap.size,0,cs'.length,m⟩) (S.new (.cells cs t .exact)) (w.alloc (.cells ⟨cs'⟩ t))/\sQ U w (U.put S.n ⟨w.heap.size,0,cs'.length,m⟩) (w.alloc (.cells ⟨cs'⟩ t)):=by
 refine h.new _ _ _ rfl (fun U' he hU'=>⟨_,⟨cs'⟩,t,(0,0),hU',?_,fun j v hj=>?_,?_⟩) (by simp [gV.olds])
 ·show(w.heap.push _)[w.heap.size]? =_;simp
 ·obtain⟨v',CC,hr⟩:=vL.get hj
  exact⟨v',by simpa using CC,hr.mono he⟩
 ·exact⟨h.base.size,rfl,vL.1.symm,fun x _ hx=>by simp at hx,rfl⟩
theorem Rel.Qj (h:Rel P w0 U S w){cs cs' more:List Value} (vL:kK U cs cs') (e:TypeId){m:Nat} (hm:bP P e=some m) (fz:Nat×Nat) (hfz:WI (cs'++more).length fz) (olds:List Nat)
 (hold:∀i∈olds,i<S.n/\∀x,S.obj i=some x->x= .dead\/∃ws e,x= .cells ws e .qV):
 Rel P w0 (U.put S.n ⟨w.heap.size,0,(cs'++more).length,m⟩) (S.new (.cells cs e (.grown olds))) (w.alloc (.cells ⟨cs'++more⟩ e fz))/\sQ U w (U.put S.n ⟨w.heap.size,0,(cs'++more).length,m⟩) (w.alloc (.cells ⟨cs'++more⟩ e fz)):=by
 refine h.new _ _ _ rfl (fun U' he hU'=>⟨_,⟨cs'++more⟩,e,fz,hU',?_,fun j v hj=>?_,?_⟩) hold
 ·show(w.heap.push _)[w.heap.size]? =_;simp
 ·obtain⟨v',CC,hr⟩:=vL.get hj
  refine⟨v',?_,hr.mono he⟩;have hlt:j<cs'.length:=(cZ.1 CC).1;have e1:(⟨cs'++more⟩:Array Value)[0+j]? =(cs'++more)[j]? :=by simp
  exact e1.trans (by rw [fQ hlt];exact CC)
 ·exact⟨h.base.size,hfz,rfl,hm,rfl⟩
end
section
variable{P:Program}{w0:World}{U:Rn}{S:St}{w:World}
structure vN (P:Program) (U:Rn) (A:aM) (a:Act):Prop where
 tmps:Qz U A.tmps a.tmps.toList
 g:A.g=P.globals.size
theorem aK (h:Rel P w0 U S w){A:aM}{a:Act} (hA:vN P U A a){x:Operand}{k:Value->Bool} (hk:rQ A x k=true):∃v,k v=true/\VR U v (a.eval x):=by
 obtain⟨v,hv,h1⟩:=aDU hk;refine⟨v,hv,?_⟩;rcases h1 with ⟨t,rfl,ht⟩ | ⟨rfl,hf⟩ | ⟨g,rfl,hg,rfl⟩ | ⟨f,rfl,rfl⟩
 ·obtain⟨v',CC,hr⟩:=hA.tmps.get ht
  have e:a.tmps.getD t undef=v':=by
   rw [Cf]at CC;simp [Kk,CC]
  show VR U v (a.tmps.getD t undef);rw [e];exact hr
 ·exact .iZ hf
 ·obtain⟨L,h1,h2,h3⟩:=h.ZZ g (by rw [<-hA.g];exact hg)
  have:=VR.ptr (o:=0) h1;rw [h2,h3]at this;exact this
 ·exact .func rfl rfl (by simp) (by simp)
theorem vQ (h:Rel P w0 U S w){A:aM}{a:Act} (hA:vN P U A a):∀{xs:List Operand} {k:List Value->Bool},LD A xs k=true->∃vs,k vs=true/\kK U vs (xs.map a.eval):=by
 intro xs;induction xs with
 | nil=>intro k hk;exact⟨[],hk,.nil U⟩
 | cons x xs ih=>
  intro k hk;obtain⟨v,hv,hr⟩:=aK h hA (show rQ A x (fun v=>LD A xs fun vs=>k (v::vs))=true from hk);obtain⟨vs,DQ,hrs⟩:=ih hv;exact⟨v::vs,DQ,.cons hr hrs⟩
theorem yS (h:Rel P w0 U S w){A:aM}{a:Act} (hA:vN P U A a){x:Option Operand}{k:Option Value->Bool} (hk:QI A x k=true):
 ∃v,k v=true/\(v=none/\x=none\/∃u y,v=some u/\x=some y/\VR U u (a.eval y)):=by
 cases x with
 | none=>exact⟨none,hk,.inl ⟨rfl,rfl⟩⟩
 | some x=>obtain⟨v,hv,hr⟩:=aK h hA (show rQ A x (fun v=>k (some v))=true from hk);exact⟨some v,hv,.inr ⟨v,x,rfl,rfl,hr⟩⟩
theorem Qx{A:aM}{a:Act} (hA:vN P U A a){d:Option Tmp}{v v':Value} (hv:VR U v v'){k:aM->Bool} (hk:lE A d v k=true):
 ∃A',k A'=true/\vN P U A' (a.put d v')/\A'.marks=A.marks:=by
 cases d with
 | none=>exact⟨A,hk,hA,rfl⟩
 | some d=>
  obtain⟨hd,hk⟩:=yR (show qW v A.tmps d (fun ts=>k ⟨ts,A.marks,A.g⟩)=true from hk);exact⟨_,hk,⟨by simpa [Act.put]using hA.tmps.set hd hv,hA.g⟩,rfl⟩
theorem vN.mono{U':Rn} (he:Ext U U'){A:aM}{a:Act} (h:vN P U A a):vN P U' A a:=⟨h.tmps.mono he,h.g⟩
theorem Hu{t:TypeId}{a b a' b':Value}{k:Bool->Bool} (hk:sI P t a b k=true) (ha:VR U a a') (hb:VR U b b'):
 ∃e,k e=true/\bA a=true/\bA b=true/\pM P t=true/\∀(d:Nat) (w:World),(Op.equalIn (d+1) t a' b').run P w= .ok e w:=by
 unfold sI at hk;split at hk
 ·rename_i kd hu
  split at hk
  ·rename_i j x l y
   split at hk
   ·rename_i hj
    rw [nQ,tD]at hk;have:=DL hj;subst this;rw [ha.of_flat rfl,hb.of_flat rfl];exact⟨_,hk,rfl,rfl,by simp [pM,hu],fun d w=>run_equalIn_int w d t j kd x y hu⟩
   ·cases hk
  ·cases hk
 ·rename_i hu
  split at hk
  ·rename_i x y
   rw [nQ,CF,<-WO,<-WO]at hk;rw [ha.of_flat rfl,hb.of_flat rfl];exact⟨_,hk,rfl,rfl,by simp [pM,hu],fun d w=>run_equalIn_string w d t x y hu⟩
  ·cases hk
 ·rename_i hu
  split at hk
  ·rename_i x y
   rw [nQ]at hk;rw [ha.of_flat rfl,hb.of_flat rfl];exact⟨_,hk,rfl,rfl,by simp [pM,hu],fun d w=>run_equalIn_bool' w d t x y hu⟩
  ·cases hk
 ·cases hk
theorem Yf{t:TypeId} (h:pM P t=true):sY P t=some false:=by
 unfold pM at h;unfold sY;split at h<;>rename_i hu<;>first | (rw [hu];rfl) | cases h
theorem LL{t:TypeId} (h:pM P t=true){cs:Array Value}{off:Nat}{v:Value} (hv:cs.toList[off]? =some v) (w:World):(part t cs off).run P w= .ok v w:=by
 rw [Cf]at hv;simp [part,DH (Yf h),hv]
theorem Eh:∀(fs:List Field) (i:Nat) (a b:List Value) (X Y:Array Value) (k:Bool->Bool),tA P i fs=true->GR P fs a b k=true->
 kK U a (X.toList.drop i)->kK U b (Y.toList.drop i)->∃e,k e=true/\∀(d:Nat) (w:World),(Op.eqFields (d+1) X Y fs).run P w= .ok e w:=by
 intro fs;induction fs with
 | nil=>intro i a b X Y k _ hk _ _;exact⟨true,hk,fun d w=>rfl⟩
 | cons f fs ih=>
  intro i a b X Y k hp hk ha hb;simp only [tA,bT,beq_iff_eq,bne_iff_ne]at hp;obtain⟨⟨⟨aAX,aB1⟩,rP⟩,tG⟩:=hp;cases a with
  | nil=>cases hk
  | cons x a=>
   cases b with
   | nil=>cases hk
   | cons y b=>
    have tT:sI P f.type x y (fun e=>match e with | true=>GR P fs a b k | false=>k false)=true:=hk;obtain⟨x',tx,ex,hx,RW⟩:=ha.bU;obtain⟨y',ty,ey,hy,hty⟩:=hb.bU;obtain⟨e,he,_,_,_,dD⟩:=Hu tT hx hy;have gx:X.toList[i]? =some x':=by have:=kA (·[0]?) ex;simpa [kI]using this
    have gy:Y.toList[i]? =some y':=by have:=kA (·[0]?) ey;simpa [kI]using this
    have dx:X.toList.drop (i+1)=tx:=by have:=kA List.tail ex;simpa [List.tail_drop]using this
    have dy:Y.toList.drop (i+1)=ty:=by have:=kA List.tail ey;simpa [List.tail_drop]using this
    cases e with
    | false=>
     refine⟨false,he,fun d w=>?_⟩;simp [Op.eqFields,aAX,aB1,LL rP gx,LL rP gy,dD]
    | true=>
     obtain⟨e,he,hr⟩:=ih (i+1) a b X Y k tG he (by rw [dx];exact RW) (by rw [dy];exact hty);refine⟨e,he,fun d w=>?_⟩;simp [Op.eqFields,aAX,aB1,LL rP gx,LL rP gy,dD,hr]
theorem AC{t:TypeId}{fs:List Field} (h:IN P t=some fs):P.underlying t=some (.struct (P.fieldsOf t))/\(P.fieldsOf t).toList=fs/\tA P 0 fs=true/\P.stoodInHeld t=false/\P.eqGuardType P.depth t=false:=by
 unfold IN at h;split at h
 ·rename_i gs hu
  split at h
  ·rename_i hc
   injection h with h;simp only [bT,uI]at hc;have e:P.fieldsOf t=gs:=by simp [Program.fieldsOf,hu]
   rw [e];exact⟨hu,h,by rw [<-h];exact hc.1.1,hc.1.2,hc.2⟩
  ·cases h
 ·cases h
section
variable (w:World) (d:Nat){t:TypeId}
theorem aN7{e:TypeId} (h:P.underlying t=some (.pointer e)) (a:Addr):(Op.equalIn (d+1) t (.pointer (some a)) (.pointer none)).run P w= .ok false w:=by simp [Op.equalIn,run_underlying h]
theorem aN8{e:TypeId} (h:P.underlying t=some (.pointer e)) (a:Addr):(Op.equalIn (d+1) t (.pointer none) (.pointer (some a))).run P w= .ok false w:=by simp [Op.equalIn,run_underlying h]
theorem aN9{e:TypeId} (h:P.underlying t=some (.pointer e)):(Op.equalIn (d+1) t (.pointer none) (.pointer none)).run P w= .ok true w:=by simp [Op.equalIn,run_underlying h]
theorem aOa{e:TypeId} (h:P.underlying t=some (.slice e)) (a:Addr) (n c m q:Nat):(Op.equalIn (d+1) t (.slice (some a) n c) (.slice none m q)).run P w= .ok false w:=by simp [Op.equalIn,run_underlying h]
theorem aOb{e:TypeId} (h:P.underlying t=some (.slice e)) (a:Addr) (n c m q:Nat):(Op.equalIn (d+1) t (.slice none m q) (.slice (some a) n c)).run P w= .ok false w:=by simp [Op.equalIn,run_underlying h]
theorem aOc{e:TypeId} (h:P.underlying t=some (.slice e)) (n c m q:Nat):(Op.equalIn (d+1) t (.slice none m q) (.slice none n c)).run P w= .ok true w:=by simp [Op.equalIn,run_underlying h]
theorem aOd{e f:TypeId} (h:P.underlying t=some (.map e f)) (a:Nat):(Op.equalIn (d+1) t (.map (some a)) (.map none)).run P w= .ok false w:=by simp [Op.equalIn,run_underlying h]
theorem aOe{e f:TypeId} (h:P.underlying t=some (.map e f)) (a:Nat):(Op.equalIn (d+1) t (.map none) (.map (some a))).run P w= .ok false w:=by simp [Op.equalIn,run_underlying h]
theorem aOf{e f:TypeId} (h:P.underlying t=some (.map e f)):(Op.equalIn (d+1) t (.map none) (.map none)).run P w= .ok true w:=by simp [Op.equalIn,run_underlying h]
theorem aMz{e f:Array TypeId}{v:Bool} (h:P.underlying t=some (.func e f v)) (a:Fn) (x y:Array Value):(Op.equalIn (d+1) t (.func a x y) .nilFunc).run P w= .ok false w:=by simp [Op.equalIn,run_underlying h]
theorem aMA{e f:Array TypeId}{v:Bool} (h:P.underlying t=some (.func e f v)) (a:Fn) (x y:Array Value):(Op.equalIn (d+1) t .nilFunc (.func a x y)).run P w= .ok false w:=by simp [Op.equalIn,run_underlying h]
theorem aMB{e f:Array TypeId}{v:Bool} (h:P.underlying t=some (.func e f v)):(Op.equalIn (d+1) t .nilFunc .nilFunc).run P w= .ok true w:=by simp [Op.equalIn,run_underlying h]
theorem aMC{m:Array (String×TypeId)} (h:P.underlying t=some (.interface m)) (u:TypeId) (x:Value):(Op.equalIn (d+1) t (.iface u x) .nilIface).run P w= .ok false w:=by simp [Op.equalIn,run_underlying h]
theorem aMD{m:Array (String×TypeId)} (h:P.underlying t=some (.interface m)) (u:TypeId) (x:Value):(Op.equalIn (d+1) t .nilIface (.iface u x)).run P w= .ok false w:=by simp [Op.equalIn,run_underlying h]
end
def aOg:Value->Value->Prop
 | .pointer (some _),v'=>∃a,v'= .pointer (some a)
 | .slice (some _) _ _,v'=>∃a:Addr×Nat×Nat,v'= .slice (some a.1) a.2.1 a.2.2
 | .map (some _),v'=>∃b,v'= .map (some b)
 | .func _ _ _,v'=>∃a:Fn×Array Value×Array Value,v'= .func a.1 a.2.1 a.2.2
 | .iface t _,v'=>∃u,v'= .iface t u
 | .pointer none,v'=>∃_:Unit,v'= .pointer none
 | .slice none n c,v'=>∃_:Unit,v'= .slice none n c
 | .map none,v'=>∃_:Unit,v'= .map none
 | .nilFunc,v'=>∃_:Unit,v'= .nilFunc
 | .nilIface,v'=>∃_:Unit,v'= .nilIface
 | _,_=>True
theorem VR.look{v v':Value} (h:VR U v v'):aOg v v':=by
 cases h with
 | flat h=>
  cases v
  case pointer a=>cases a with | none=>exact⟨(),rfl⟩ | some a=>simp [bA]at h
  case slice a n c=>cases a with | none=>exact⟨(),rfl⟩ | some a=>simp [bA]at h
  case map a=>cases a with | none=>exact⟨(),rfl⟩ | some a=>simp [bA]at h
  case func=>simp [bA]at h
  case iface=>simp [bA]at h
  case nilFunc=>exact⟨(),rfl⟩
  case nilIface=>exact⟨(),rfl⟩
  all_goals trivial
 | ptr _=>exact⟨_,rfl⟩
 | slice _=>exact⟨(_,_,_),rfl⟩
 | oG _ _ _ _ _=>exact⟨(_,_,_),rfl⟩
 | wT=>exact⟨(_,_,_),rfl⟩
 | wU _=>exact⟨(_,_,_),rfl⟩
 | map _=>exact⟨_,rfl⟩
 | func _ _ _ _=>exact⟨(_,_,_),rfl⟩
 | yield _=>exact⟨(_,_,_),rfl⟩
 | DO _=>exact⟨(_,_,_),rfl⟩
 | iface _=>exact⟨_,rfl⟩
 | agg _ _=>trivial
 | tuple _ _=>trivial
theorem IP{t:TypeId}{a b a' b':Value}{k:Bool->Bool} (hk:nX P t a b k=true) (ha:VR U a a') (hb:VR U b b'):
 ∃e,k e=true/\(∀(w:World),(Op.equal t a' b').run P w= .ok e w)/\(∀(op:BinOp) (x y:Operand) (w:World),(eqGuard op t x y a' b').run P w= .ok () w):=by
 have guard:∀(op:BinOp) (x y:Operand) (w:World),(∀xs,a'≠ .agg xs)->(a'= .nilIface->b'≠ .nilIface)->(eqGuard op t x y a' b').run P w= .ok () w:=by
  intro op x y w h1 h2;unfold eqGuard;cases op<;>cases a'<;>cases b'<;>first | rfl | exact absurd rfl (h1 _) | exact absurd rfl (h2 rfl)
 unfold nX at hk;split at hk
 ·rename_i xs ys
  split at hk
  ·rename_i fs hfs
   obtain⟨h1,h2,h3,h4,h5⟩:=AC hfs;obtain⟨xs',rfl,hx⟩:=ha.FC;obtain⟨ys',rfl,hy⟩:=hb.FC;obtain⟨e,he,hr⟩:=Eh fs 0 _ _ xs' ys' k h3 hk (by simpa using hx) (by simpa using hy);refine⟨e,he,fun w=>?_,fun op x y w=>run_eqGuard_agg w op t x y xs' ys' h5⟩;show(Op.equalIn (9999+1) t _ _).run P w=_;rw [run_equalIn_struct w 9999 t xs' ys' h1 h4,h2];exact hr 9998 w
  ·cases hk
 all_goals first
  | cases hk;done
  | (split at hk<;>first
   | cases hk;done
   | (rename_i hu
      rw [nQ]at hk;have ea:=ha.of_flat rfl;have eb:=hb.of_flat rfl;rw [ea,eb]at guard;rw [ea,eb];exact⟨_,hk,fun w=>run_equal_bool w t _ _ hu,fun op x y w=>guard op x y w (by simp) (by simp)⟩)
   | (rename_i hu
      obtain⟨_,ea⟩:=ha.look;obtain⟨_,eb⟩:=hb.look;refine⟨_,hk,fun w=>?_,fun op x y w=>guard op x y w ?_ ?_⟩
      ·show(Op.equalIn (9999+1) t _ _).run P w=_
       rw [ea,eb]
       first
        | exact aN7 w 9999 hu _ | exact aN8 w 9999 hu _ | exact aN9 w 9999 hu | exact aOa w 9999 hu _ _ _ _ _ | exact aOb w 9999 hu _ _ _ _ _ | exact aOc w 9999 hu _ _ _ _ | exact aOd w 9999 hu _ | exact aOe w 9999 hu _
        | exact aOf w 9999 hu | exact aMz w 9999 hu _ _ _ | exact aMA w 9999 hu _ _ _ | exact aMB w 9999 hu | exact aMC w 9999 hu _ _ | exact aMD w 9999 hu _ _
      ·intro xs e;rw [ea]at e;cases e
      ·intro e e2;rw [ea]at e;rw [eb]at e2;first | (cases e;done) | (cases e2;done)))
end
section
variable{P:Program}{w0:World}{U:Rn}{S:St}{w:World}
def vD:Value->Bool
 | .int _ _ | .float _ _ | .complex _ _ _ | .string _=>true
 | _=>false
theorem VR.vD{v v':Value} (h:VR U v v'):vD v'=vD v:=by cases h<;>rfl
theorem TD{t:TypeId}{a b:Value}{k:Bool->Bool} (hk:nX P t a b k=true):vD a=false:=by
 cases a<;>first | rfl | (unfold nX at hk;cases hk)
theorem binOp_eql{t:TypeId}{a b:Value} (h:vD a=false):binOp .eql t a b=(do pure (.bool (<-Op.equal t a b))):=by
 cases a<;>cases b<;>first | rfl | (simp [vD]at h)
theorem binOp_neq{t:TypeId}{a b:Value} (h:vD a=false):binOp .neq t a b=(do pure (.bool (!(<-Op.equal t a b)))):=by
 cases a<;>cases b<;>first | rfl | (simp [vD]at h)
theorem Jc (op:BinOp) (t:TypeId) (x y:Operand){a b:Value} (ha:vD a=true) (w:World):(eqGuard op t x y a b).run P w= .ok () w:=by
 unfold eqGuard;cases op<;>cases a<;>first | (simp [vD]at ha;done) | (cases b<;>rfl)
theorem Dj{op:BinOp}{t:TypeId}{a b a' b':Value}{K:Value->Bool} (hk:QH P op t a b K=true) (ha:VR U a a') (hb:VR U b b'):
 ∃v,K v=true/\bA v=true/\∀(x y:Operand) (w:World),((do eqGuard op t x y a' b';binOp op t a' b'):Sem Value).run P w= .ok v w:=by
 unfold QH at hk;split at hk
 ·rename_i k x k' y
  rw [ha.of_flat rfl,hb.of_flat rfl]
  have fin:∀v,K v=true->bA v=true->(∀(P:Program) (t:TypeId) (w:World),(binOp op t (.int k x) (.int k' y)).run P w= .ok v w)->∃v,K v=true/\bA v=true/\∀(x' y':Operand) (w:World),((do eqGuard op t x' y' (.int k x) (.int k' y);binOp op t (.int k x) (.int k' y)):Sem Value).run P w= .ok v w:=
   fun v h1 h2 h3=>⟨v,h1,h2,fun x' y' w=>by rw [bY,Jc op t x' y' rfl];exact h3 P t w⟩
  split at hk
  ·obtain⟨v,h1,h2,h3⟩:=SX (k':=k') hk;exact fin v h1 h2 h3
  ·obtain⟨v,h1,h2,h3⟩:=SX (k':=k') hk;exact fin v h1 h2 h3
  ·split at hk
   ·rename_i hj
    have:=DL hj;subst this;obtain⟨v,h1,h2,_,_,h3⟩:=Ho hk;exact fin v h1 h2 h3
   ·cases hk
 ·rename_i x y
  rw [ha.of_flat rfl,hb.of_flat rfl];obtain⟨v,h1,h2,h3⟩:=Hq hk;exact⟨v,h1,h2,fun x' y' w=>by rw [bY,Jc op t x' y' rfl];exact h3 P t w⟩
 ·split at hk
  ·have hs:=TD hk
   obtain⟨e,he,h1,h2⟩:=IP hk ha hb;rw [pD]at he;exact⟨_,he,rfl,fun x y w=>by rw [bY,h2,dK,binOp_eql (by rw [ha.vD,hs])];simp [h1]⟩
  ·have hs:=TD hk
   obtain⟨e,he,h1,h2⟩:=IP hk ha hb;rw [pD]at he;exact⟨_,he,rfl,fun x y w=>by rw [bY,h2,dK,binOp_neq (by rw [ha.vD,hs])];simp [h1]⟩
  ·cases hk
theorem Iv{op:UnOp}{a a':Value}{K:Value->Bool} (hk:unK op a K=true) (ha:VR U a a'):
 ∃v,K v=true/\bA v=true/\∀(w:World),(Op.unary op a').run P w= .ok v w:=by
 unfold unK at hk;split at hk
 ·rw [Mc]at hk
  rw [ha.of_flat rfl];exact⟨_,hk,rfl,fun w=>rfl⟩
 ·rw [mI]at hk
  rw [ha.of_flat rfl];exact⟨_,hk,rfl,fun w=>rfl⟩
 ·rw [pD]at hk
  rw [ha.of_flat rfl];exact⟨_,hk,rfl,fun w=>rfl⟩
 ·cases hk
theorem WP{d:Nat}{x:Option Value}{k:Nat->Bool} (hk:aB0 d x k=true):∃n,k n=true/\(x=none/\n=d\/∃kd,x=some (.int kd (.ofNat n))):=by
 unfold aB0 at hk;split at hk
 ·exact⟨d,hk,.inl ⟨rfl,rfl⟩⟩
 ·rename_i kd n;exact⟨n,hk,.inr ⟨kd,rfl⟩⟩
 ·cases hk
def Ad (U:Rn) (x x':Option Value):Prop:=(x=none/\x'=none)\/∃v v',x=some v/\x'=some v'/\VR U v v'
theorem Ad.int{x x':Option Value} (h:Ad U x x'){kd:IntKind}{n:Nat} (e:x=some (.int kd (.ofNat n))):x'=some (.int kd (.ofNat n)):=by
 rcases h with ⟨h,_⟩ | ⟨v,v',h1,h2,hr⟩
 ·rw [e]at h;cases h
 ·rw [e]at h1;injection h1 with h1;subst h1
  rw [h2,hr.of_flat rfl]
theorem Ad.none{x x':Option Value} (h:Ad U x x') (e:x=none):x'=none:=by
 rcases h with ⟨_,h⟩ | ⟨v,v',h1,_⟩
 ·exact h
 ·rw [e]at h1;cases h1
theorem zU{len cap:Nat}{lo hi mx Bf OM RX:Option Value}{k:Nat->Nat->Nat->Bool} (hk:IM len cap lo hi mx k=true)
 (hl:Ad U lo Bf) (hh:Ad U hi OM) (hm:Ad U mx RX):
 ∃l h m,k l h m=true/\l<=h/\h<=m/\m<=cap/\(mx=none->m=cap)/\∀(TE:Nat),cap<=TE->(RX=none->mx=none)->∀(isSlice:Bool) (w:World),(RX=none\/OM≠none)->
  (Instr.sliceBounds isSlice len TE Bf OM RX).run P w= .ok (l,h,if RX=none then TE else m) w:=by
 unfold IM at hk;obtain⟨m,hk,em⟩:=WP hk;obtain⟨h,hk,eh⟩:=WP hk;obtain⟨l,hk,el⟩:=WP hk;split at hk
 ·rename_i h1 h2 h3
  have h1:=bE h1;have h2:=bE h2;have h3:=bE h3;refine⟨l,h,m,hk,h1,h2,h3,fun e=>?_,fun TE hc hmm isS w hhi=>?_⟩
  ·rcases em with ⟨_,e'⟩ | ⟨kd,e'⟩
   ·exact e'
   ·rw [e]at e';cases e'
  ·have elo:(match Bf with | some v=>Instr.sliceBound v h (if RX.isSome then .slice3C else .sliceB) | none=>(pure 0:Sem Nat)).run P w= .ok l w:=by
    rcases el with ⟨e,e'⟩ | ⟨kd,e⟩
    ·rw [hl.none e,e'];rfl
    ·rw [hl.int e];simp [Instr.sliceBound,asIntOf,h1]
   rcases em with ⟨e,e'⟩ | ⟨kd,e⟩
   ·have emx:=hm.none e
    subst emx
    have ehi:(match OM with | some v=>Instr.sliceBound v TE (if isS then .sliceAcap else .sliceAlen) | none=>(pure len:Sem Nat)).run P w= .ok h w:=by
     rcases eh with ⟨e2,e2'⟩ | ⟨kd2,e2⟩
     ·rw [hh.none e2,e2'];rfl
     ·rw [hh.int e2];simp [Instr.sliceBound,asIntOf];omega
    unfold Instr.sliceBounds;cases OM with
    | none=>
     simp at ehi;cases Bf with
     | none=>simp at elo;simp [elo,ehi]
     | some u=>simp at elo;simp [elo,ehi]
    | some v=>
     simp at ehi;cases Bf with
     | none=>simp at elo;simp [elo,ehi]
     | some u=>simp at elo;simp [elo,ehi]
   ·have emx:=hm.int e
    subst emx;have aOh:OM≠none:=by rcases hhi with h | h;cases h;exact h
    rcases eh with ⟨e2,_⟩ | ⟨kd2,e2⟩
    ·exact absurd (hh.none e2) aOh
    ·have ehi:=hh.int e2
     subst ehi;simp only [VN,if_true]at elo;have r1:(Instr.sliceBound (.int kd (.ofNat m)) TE (if isS then .slice3Acap else .slice3Alen)).run P w= .ok m w:=by simp [Instr.sliceBound,asIntOf];omega
     have r2:(Instr.sliceBound (.int kd2 (.ofNat h)) m .slice3B).run P w= .ok h w:=by simp [Instr.sliceBound,asIntOf];omega
     unfold Instr.sliceBounds;cases Bf with
     | none=>
      simp at elo;simp only [bY,r1,dK,r2,iY];simp [elo]
     | some u=>
      simp only at elo;simp only [bY,r1,dK,r2,iY,VN,if_true,elo];simp
 ·cases hk
end
section
variable{P:Program}{w0:World}{U:Rn}{S:St}{w:World}
theorem fS{t e:TypeId} (h:isSlice P t=some e):P.underlying t=some (.slice e):=by
 unfold isSlice at h;split at h
 ·rename_i hu;injection h with h;subst h;exact hu
 ·cases h
theorem Si (s:ByteArray) (l h:Nat) (_:h<=s.size):s.extract l h=⟨⟨(s.data.toList.take h).drop l⟩⟩:=by
 apply ByteArray.ext;apply gW.1;simp [ByteArray.data_extract,Wz,List.extract_eq_take_drop,List.drop_take]
theorem SN (h:Rel P w0 U S w){t:TypeId}{x x':Value}{lo hi mx Bf OM RX:Option Value}{K:Value->Bool} (hk:rE P t x lo hi mx S K=true)
 (hx:VR U x x') (hl:Ad U lo Bf) (hh:Ad U hi OM) (hm:Ad U mx RX) (hmh:RX=none\/OM≠none):
 ∃v v',K v=true/\VR U v v'/\∀w,(Instr.sliceAt t x' Bf OM RX).run P w= .ok v' w:=by
 have hmm:RX=none->mx=none:=fun e=>by
  rcases hm with ⟨h,_⟩ | ⟨_,_,_,h,_⟩
  ·exact h
  ·rw [e]at h;cases h
 unfold rE at hk;split at hk
 ·
   rename_i s;split at hk
   ·rename_i hu
    rw [hx.of_flat rfl];rw [jT]at hk;obtain⟨l,h',m,hk,h1,h2,h3,h4,dD⟩:=zU (P:=P) hk hl hh (.inl ⟨rfl,rfl⟩);rw [AB]at hk;have hsz:s.data.toList.length=s.size:=rfl;split at hk
    ·rename_i hle
     rw [wW]at hk;split at hk
     ·refine⟨_,_,hk,.flat rfl,fun w=>?_⟩
      have e1:=hm.none rfl;subst e1;have:=dD s.data.toList.length (bN _) (fun _=>rfl) false w (.inl rfl);rw [hsz]at this;simp only [if_true]at this;simp [Instr.sliceAt,run_underlying hu,Instr.slice,this,Si s l h' (by omega)]
     ·cases hk
    ·cases hk
   ·cases hk
 ·
   rename_i len cap;split at hk
   ·rename_i e he
    have hu:=fS he;split at hk
    ·rename_i size hsz
     rw [hx.of_flat rfl];obtain⟨l,h',m,tT,h1,h2,h3,h4,dD⟩:=zU (P:=P) hk hl hh hm;simp only [aY]at tT;refine⟨_,.slice none (h'-l) (m-l),tT,.flat rfl,fun w=>?_⟩;have:=dD cap (bN _) hmm true w hmh
     have em:(if RX=none then cap else m)=m:=by
      split
      ·rename_i e2;exact(h4 (hmm e2)).symm
      ·rfl
     rw [em]at this;simp [Instr.sliceAt,run_underlying hu,Instr.slice,this,gD hsz]
    ·cases hk
   ·cases hk
 ·
   rename_i i o sp len cap;split at hk
   ·rename_i e he
    have hu:=fS he;split at hk
    ·rename_i size hsz
     obtain⟨l,h',m,tT,h1,h2,h3,h4,dD⟩:=zU (P:=P) hk hl hh hm;simp only [aY]at tT;clear hk
     have go:∀(a:Addr) (TE:Nat),cap<=TE->∀w,(Instr.sliceAt t (.slice (some a) len TE) Bf OM RX).run P w=
      .ok (.slice (some (if(if RX=none then TE else m)=l then a else a.add (l*size))) (h'-l) ((if RX=none then TE else m)-l)) w:=by
      intro a TE hc w;have:=dD TE hc hmm true w hmh;have e1:∀(q:Nat),(if q=l then some a else some (a.add (l*size)))=some (if q=l then a else a.add (l*size)):=fun q=>by split<;>rfl
      simp [Instr.sliceAt,run_underlying hu,Instr.slice,this,gD hsz,e1]
     cases hx with
     | flat h=>simp [bA]at h
     | @slice _ _ _ _ L hL=>
      have em:(if RX=none then cap else m)=m:=by
       split
       ·rename_i e2;exact(h4 (hmm e2)).symm
       ·rfl
      have Ha:=go ⟨L.b,L.s+o,none⟩ cap (bN _);simp only [em]at Ha
      replace tT:(match Nat.beq m l with | true=>K (.slice (some ⟨i,o,none⟩) (h'-l) (m-l)) | false=>K (.slice (some ⟨i,o+l*size,none⟩) (h'-l) (m-l)))=true:=tT
      split at tT
      ·rename_i KA
       have KA:=cV KA;exact⟨_,_,tT,.slice hL,fun w=>by rw [Ha w,if_pos KA]⟩
      ·rename_i KA
       have KA:m≠l:=fun e=>by subst e;simp at KA
       exact⟨_,_,tT,.slice hL,fun w=>by rw [Ha w,if_neg KA,lF,sX]⟩
     | @oG _ _ _ _ c' L hL hc hn Qt hmp=>
      have Ha:=go ⟨L.b,L.s+o,none⟩ c' hc;cases mx with
      | some y=>
       have uR:RX≠none:=fun e=>by have:=hmm e;cases this
       simp only [if_neg uR]at Ha
       replace tT:(match Nat.beq m l with | true=>K (.slice (some ⟨i,o,none⟩) (h'-l) (m-l)) | false=>K (.slice (some ⟨i,o+l*size,none⟩) (h'-l) (m-l)))=true:=tT
       split at tT
       ·rename_i KA
        have KA:=cV KA;exact⟨_,_,tT,.slice hL,fun w=>by rw [Ha w,if_pos KA]⟩
       ·rename_i KA
        have KA:m≠l:=fun e=>by subst e;simp at KA
        exact⟨_,_,tT,.slice hL,fun w=>by rw [Ha w,if_neg KA,lF,sX]⟩
      | none=>
       have Wi:=hm.none rfl;subst Wi;simp only [if_true]at Ha;have hm':=h4 rfl;subst hm'
       replace tT:(match Nat.beq m l with | true=>K (.slice (some ⟨i,0,some 1⟩) 0 0) | false=>(uJ S i fun _ e ck=>match ck,bP P e with | .exact,_=>false | _,some q=>(match Nat.beq q size with | true=>K (.slice (some ⟨i,o+l*size,some 0⟩) (h'-l) (m-l)) | false=>false) | _,none=>false))=true:=tT
       split at tT
       ·rename_i KA
        have KA:=cV KA;have e0:h'-l=0:=by omega
        refine⟨_,.slice (some (if c'=l then⟨L.b,L.s+o,none⟩else(⟨L.b,L.s+o,none⟩:Addr).add (l*size))) 0 (c'-l),tT,.wT,fun w=>?_⟩;rw [Ha w,e0]
       ·rename_i KA
        have KA:m≠l:=fun e=>by subst e;simp at KA
        obtain⟨vs,e',ck,ho,tT⟩:=tI tT;obtain⟨cs,tt,fz,hb,_,pS⟩:=h.cells ho hL;cases hq:bP P e' with
        | none=>rw [hq]at tT;cases ck<;>cases tT
        | some q=>
         rw [hq]at tT;have uR:ck≠ .exact:=by rintro rfl;cases tT
         have tC:(match Nat.beq q size with | true=>K (.slice (some ⟨i,o+l*size,some 0⟩) (h'-l) (m-l)) | false=>false)=true:=by cases ck<;>first | exact tT | exact absurd rfl uR
         split at tC
         ·rename_i hqs
          have hqs:=cV hqs;subst hqs
          have hm:L.m=q:=by
           cases ck with
           | exact=>exact absurd rfl uR
           | grown _=>obtain⟨_,_,_,h5,_⟩:=pS;rw [hq]at h5;injection h5 with h5;exact h5.symm
           | qV=>obtain⟨_,h5,_⟩:=pS;rw [hq]at h5;injection h5 with h5;exact h5.symm
           | ro=>have h5:bP P e'=some L.m:=pS;rw [hq]at h5;injection h5 with h5;exact h5.symm
           | rs=>have h5:=pS.1;rw [hq]at h5;injection h5 with h5;exact h5.symm
          refine⟨_,.slice (some ⟨L.b,L.s+(o+l*q),none⟩) (h'-l) (c'-l),tC,(.oG hL (by omega) (by omega) ?_ hmp),fun w=>by rw [Ha w,if_neg (by omega),lF,sX]⟩;rw [hm]at Qt ⊢;have:l*q+(c'-l)*q=c'*q:=by rw [<-kJ];congr 1;omega
          omega
         ·cases tC
     | @wT _ c' a=>
      have e0:l=0/\h'=0/\m=0:=by omega
      obtain⟨rfl,rfl,rfl⟩:=e0;have Ha:=go a c' (mP _)
      replace tT:K (.slice (some ⟨i,0,some 1⟩) 0 0)=true:=tT
      refine⟨_,.slice (some a) 0 ((if RX=none then c' else 0)-0),tT,.wT,fun w=>?_⟩;rw [Ha w];simp [Addr.add]
     | @wU _ _ s sp2 Pu=>
      have e0:l=0/\h'=0/\m=0:=by omega
      obtain⟨rfl,rfl,rfl⟩:=e0;have Ha:=go ⟨i,o,sp2⟩ 0 (mP _)
      replace tT:K (.slice (some ⟨i,0,some 1⟩) 0 0)=true:=tT
      refine⟨_,.slice (some ⟨i,o,sp2⟩) 0 ((if RX=none then 0 else 0)-0),tT,.wT,fun w=>?_⟩;rw [Ha w];simp []
    ·cases hk
   ·cases hk
 ·
   rename_i i o;split at hk
   ·rename_i n e hu
    split at hk
    ·rename_i size hsz
     obtain⟨l,h',m,tT,h1,h2,h3,h4,dD⟩:=zU (P:=P) hk hl hh hm;simp only [aY]at tT;clear hk
     have em:(if RX=none then n else m)=m:=by
      split
      ·rename_i e2;exact(h4 (hmm e2)).symm
      ·rfl
     cases hx with
     | flat h=>simp [bA]at h
     | @ptr _ _ L hL=>
      have Ha:∀w,(Instr.sliceAt t (.pointer (some ⟨L.b,L.s+o,none⟩)) Bf OM RX).run P w= .ok (.slice (some (if m=l then⟨L.b,L.s+o,none⟩else(⟨L.b,L.s+o,none⟩:Addr).add (l*size))) (h'-l) (m-l)) w:=by
       intro w;have:=dD n (bN _) hmm false w hmh;rw [em]at this;simp [Instr.sliceAt,run_underlying hu,Instr.sureAddr,this,gD hsz]
      split at tT
      ·rename_i KA
       have KA:=cV KA;exact⟨_,_,tT,.slice hL,fun w=>by rw [Ha w,if_pos KA]⟩
      ·rename_i KA
       have KA:m≠l:=fun e=>by subst e;simp at KA
       exact⟨_,_,tT,.slice hL,fun w=>by rw [Ha w,if_neg KA,lF,sX]⟩
    ·cases hk
   ·cases hk
 ·cases hk
end
section
variable{P:Program}{w0:World}{U:Rn}{S:St}{w:World}
theorem VR.iG{i o:Nat}{sp:Option Nat}{n c:Nat}{v':Value} (h:VR U (.slice (some ⟨i,o,sp⟩) n c) v'):
 (∃L c',U i=some L/\v'= .slice (some ⟨L.b,L.s+o,none⟩) n c'/\((sp=none/\c'=c)\/(sp=some 0/\c<=c'/\n<=c/\L.s+o+c'*L.m=L.e/\0<L.m)))\/((∃s,sp=some (s+1))/\n=0/\c=0/\∃a c',v'= .slice (some a) 0 c'):=by
 cases h with
 | flat h=>simp [bA]at h
 | slice hL=>exact .inl ⟨_,_,hL,rfl,.inl ⟨rfl,rfl⟩⟩
 | oG hL hc hn he hm=>exact .inl ⟨_,_,hL,rfl,.inr ⟨rfl,hc,hn,he,hm⟩⟩
 | wT=>exact .inr ⟨⟨_,rfl⟩,rfl,rfl,_,_,rfl⟩
 | wU _=>exact .inr ⟨⟨_,rfl⟩,rfl,rfl,_,_,rfl⟩
theorem VR.CB{i o:Nat}{sp:Option Nat}{v':Value} (h:VR U (.pointer (some ⟨i,o,sp⟩)) v'):sp=none/\∃L,U i=some L/\v'= .pointer (some ⟨L.b,L.s+o,none⟩):=by
 cases h with
 | flat h=>simp [bA]at h
 | ptr hL=>exact⟨rfl,_,hL,rfl⟩
theorem GT{t:TypeId}{x x' ix ix':Value}{K:Value->Bool} (hk:rF P t x ix K=true) (hx:VR U x x') (hi:VR U ix ix'):
 ∃v v',K v=true/\VR U v v'/\∀w,(Instr.indexAt t x' ix').run P w= .ok v' w:=by
 unfold rF at hk;split at hk
 ·rename_i kd j
  rw [hi.of_flat rfl];split at hk
  ·rename_i b o sp len c
   rcases hx.iG with ⟨L,c',hL,rfl,AA⟩ | ⟨⟨_,rfl⟩,_⟩
   ·have tC:(match isSlice P t with
     | some elem=>(match bP P elem,Nat.blt j len with
      | some size,true=>cG (o+j*size) fun o=>K (.pointer (some ⟨b,o,none⟩))
      | _,_=>false)
     | none=>false)=true:=by
     rcases AA with ⟨rfl,_⟩ | ⟨rfl,_⟩<;>exact hk
    split at tC
    ·rename_i e he
     have hu:=fS he;split at tC
     ·rename_i size hsz hj
      have hj:j<len:=bE hj;rw [aY]at tC;refine⟨_,_,tC,.ptr hL,fun w=>?_⟩;simp [Instr.indexAt,asIntOf,run_underlying hu,hj,gD hsz,lF,sX]
     ·cases tC
    ·cases tC
   ·cases hk
  ·rename_i b o
   obtain⟨_,L,hL,rfl⟩:=hx.CB;split at hk
   ·rename_i len e hu
    split at hk
    ·rename_i size hsz hj
     have hj:j<len:=bE hj;rw [aY]at hk;refine⟨_,_,hk,.ptr hL,fun w=>?_⟩;simp [Instr.indexAt,asIntOf,run_underlying hu,Instr.sureAddr,hj,gD hsz,lF,sX]
    ·cases hk
   ·cases hk
  ·cases hk
 ·cases hk
theorem SD{s:TypeId}{f:Nat}{fd:Field} (h:wR P s f=some fd):∃fs,P.underlying s=some (.struct fs)/\fs[f]? =some fd:=by
 unfold wR at h;split at h
 ·rename_i fs hu;exact⟨fs,hu,h⟩
 ·cases h
theorem GU{s:TypeId}{x x':Value}{f:Nat}{K:Value->Bool} (hk:yN P s x f K=true) (hx:VR U x x'):
 ∃v v',K v=true/\VR U v v'/\∀w,(Instr.fieldAt s x' f).run P w= .ok v' w:=by
 unfold yN at hk;split at hk
 ·rename_i b o
  obtain⟨_,L,hL,rfl⟩:=hx.CB;split at hk
  ·rename_i fd hf
   obtain⟨fs,hu,hfs⟩:=SD hf;split at hk
   ·rename_i q hsz
    rw [aY]at hk;refine⟨_,_,hk,.ptr hL,fun w=>?_⟩;simp [Instr.fieldAt,run_underlying hu,hfs,Instr.sureAddr,fieldPlace,gD hsz,lF,sX]
   ·cases hk
  ·cases hk
 ·cases hk
theorem XZ{t:TypeId}{cs:List Value}{cs':Array Value}{off:Nat}{K:Value->Bool} (hk:Ij P t cs off K=true) (vL:kK U cs cs'.toList):
 ∃v v',K v=true/\VR U v v'/\∀w,(part t cs' off).run P w= .ok v' w:=by
 unfold Ij at hk;split at hk
 ·rename_i Xi
  obtain⟨v,hv,hk⟩:=GV hk;obtain⟨v',CC,hr⟩:=vL.get hv;rw [Cf]at CC;exact⟨v,v',hk,hr,fun w=>by simp [part,DH Xi,CC]⟩
 ·rename_i Xi
  split at hk
  ·rename_i n hsz
   rw [wW]at hk;split at hk
   ·rw [AB]at hk
    split at hk
    ·rename_i h1 h2
     refine⟨_,.agg ⟨(cs'.toList.drop off).take n⟩,hk,.Lh ((vL.drop off).take n),fun w=>?_⟩
     have:cs'.extract off (off+n)=⟨(cs'.toList.drop off).take n⟩:=by
      apply gW.1;simp [Wz,List.extract_eq_take_drop]
     simp [part,DH Xi,gD hsz,this]
    ·cases hk
   ·cases hk
  ·cases hk
 ·cases hk
theorem SE{t:TypeId}{x x':Value}{f:Nat}{K:Value->Bool} (hk:LE P t x f K=true) (hx:VR U x x'):
 ∃v v',K v=true/\VR U v v'/\∀w,(Instr.field t x' f).run P w= .ok v' w:=by
 unfold LE at hk;split at hk
 ·rename_i cs
  obtain⟨cs',rfl,vL⟩:=hx.FC;split at hk
  ·rename_i fd hf
   obtain⟨fs,hu,hfs⟩:=SD hf;obtain⟨v,v',h1,h2,h3⟩:=XZ hk vL;exact⟨v,v',h1,h2,fun w=>by simp [Instr.field,run_underlying hu,hfs,asAgg,h3]⟩
  ·cases hk
 ·cases hk
theorem SF{t:TypeId}{x x' ix ix':Value}{K:Value->Bool} (hk:WC P t x ix K=true) (hx:VR U x x') (hi:VR U ix ix'):
 ∃v v',K v=true/\VR U v v'/\∀w,(Instr.index t x' ix').run P w= .ok v' w:=by
 unfold WC at hk;split at hk
 ·rename_i kd j
  rw [hi.of_flat rfl];split at hk
  ·rename_i cs
   obtain⟨cs',rfl,vL⟩:=hx.FC;split at hk
   ·rename_i len e hu
    split at hk
    ·rename_i size hsz hj
     have hj:j<len:=bE hj;obtain⟨v,v',h1,h2,h3⟩:=XZ hk vL;exact⟨v,v',h1,h2,fun w=>by simp [Instr.index,asIntOf,run_underlying hu,hj,gD hsz,h3]⟩
    ·cases hk
   ·cases hk
  ·rename_i s
   rw [hx.of_flat rfl];split at hk
   ·rename_i hu
    obtain⟨b,hb,hk⟩:=GV hk;rw [aY]at hk;refine⟨_,_,hk,.flat rfl,fun w=>?_⟩
    have PC:s[j]? =some b:=by
     rw [Cf]at hb;obtain⟨h1,h2⟩:=mN.1 hb;have h3:j<s.size:=h1;rw [getElem?_pos s j h3]
     congr 1
    simp [Instr.index,asIntOf,run_underlying hu,PC]
   ·cases hk
  ·cases hk
 ·cases hk
theorem Li (l:List Value):∀(off n:Nat) (cs:Array Value),off+n+l.length<=cs.size->
 ((l.zipIdx n).foldl (fun cs (x:Value×Nat)=>cs.setIfInBounds (off+x.2) x.1) cs).toList=aG (off+n) l cs.toList:=by
 induction l with
 | nil=>intro off n cs _;simp [aG]
 | cons v l ih=>
  intro off n cs h;simp only [List.zipIdx_cons,PY];rw [ih off (n+1) _ (by simp at h ⊢;omega)];apply uH;intro j;have hl:cs.toList.length=cs.size:=rfl;rw [fL _ _ _ (by simp at h ⊢;omega),fL _ _ _ (by simp at h ⊢;omega)];simp only [PU,rZ];by_cases h2:j=off+n
  ·subst h2
   rw [if_neg (by omega),if_pos (by omega),Nat.sub_self];have:off+n<cs.size:=by simp at h;omega
   simp [this]
  ·by_cases h3:off+(n+1)<=j/\j<off+(n+1)+l.length
   ·rw [if_pos h3,if_pos (by omega)]
    obtain⟨q,rfl⟩:∃q,j=off+n+(q+1):=⟨j-(off+n+1),by omega⟩;rw [show off+n+(q+1)-(off+(n+1))=q by omega,show off+n+(q+1)-(off+n)=q+1 by omega];simp
   ·rw [if_neg h3,if_neg (by omega),PV (by omega)]
def Cs (U:Rn) (l l':List (Nat×Value)):Prop:=l.length=l'.length/\∀(k:Nat) (p p':Nat×Value),l[k]? =some p->l'[k]? =some p'->p.1=p'.1/\VR U p.2 p'.2
theorem Cs.bU{p:Nat×Value}{l l':List (Nat×Value)} (h:Cs U (p::l) l'):∃p' t',l'=p'::t'/\p.1=p'.1/\VR U p.2 p'.2/\Cs U l t':=by
 cases l' with
 | nil=>have:=h.1;simp at this
 | cons p' t'=>
  obtain⟨h1,h2⟩:=h.2 0 p p' rfl rfl;exact⟨p',t',rfl,h1,h2,by simpa using h.1,fun k q q' a b=>h.2 (k+1) q q' (by simpa using a) (by simpa using b)⟩
theorem FD{place place':Nat->Option (Nat×Nat)} (rP:∀i q,place i=some q->place' i=some q):∀{parts parts':List (Nat×Value)} {cells:List Value} {cells':Array Value} {k:List Value->Bool},
 PA place parts cells k=true->Cs U parts parts'->kK U cells cells'.toList->∃out Hg,k out=true/\Instr.fill place' cells' parts'=some Hg/\kK U out Hg.toList/\out.length=cells.length:=by
 intro parts;induction parts with
 | nil=>
  intro parts' cells cells' k hk hp hc;have:parts'=[]:=lZ hp.1.symm;subst this;exact⟨cells,cells',hk,rfl,hc,rfl⟩
 | cons p parts ih=>
  intro parts' cells cells' k hk hp hc;obtain⟨p',t',rfl,h1,h2,ht⟩:=hp.bU
  have tT:(match place p.1 with
   | some (off,size)=>nW p.2 fun new=>zZ new fun m=>match Nat.beq m size with
    | true=>qA off new cells fun cs=>PA place parts cs k
    | false=>false
   | none=>false)=true:=hk
  split at tT
  ·rename_i off size hq
   obtain⟨new,tT,DI,Ct,_⟩:=zO tT h2;rw [jT]at tT;split at tT
   ·rename_i hm
    have hm:=cV hm;rw [vM]at tT;split at tT
    ·rename_i hlen
     have hsz:p'.2.cells.size=size:=by rw [<-hm,Ct.1];rfl
     have ZX:cells.length=cells'.size:=hc.1;have IC:new.length=p'.2.cells.size:=Ct.1
     have e1:(p'.2.cells.zipIdx.foldl (fun cs (x:Value×Nat)=>cs.setIfInBounds (off+x.2) x.1) cells').toList=aG off p'.2.cells.toList cells'.toList:=by
      rw [<-Xg,Array.toList_zipIdx];exact Li p'.2.cells.toList off 0 cells' (by have:p'.2.cells.toList.length=p'.2.cells.size:=rfl;omega)
     obtain⟨out,Hg,g1,g2,g3,g4⟩:=ih (cells':=p'.2.cells.zipIdx.foldl (fun cs (x:Value×Nat)=>cs.setIfInBounds (off+x.2) x.1) cells') tT ht (by rw [e1];exact hc.aG Ct off);refine⟨out,Hg,g1,?_,g3,by rw [g4,kG _ _ _ hlen]⟩;obtain⟨i',v'⟩:=p';simp only at h1;simp only [Instr.fill,<-h1,rP _ _ hq];have c1:(v'.cells.size != size)=false:=by simp;exact hsz
     have c2:¬off+v'.cells.size>cells'.size:=by
      have:v'.cells.size=new.length:=by rw [IC]
      omega
     rw [if_neg (by simp;have:v'.cells.size=new.length:=by rw [IC]
                    omega)]
     exact g2
    ·cases tT
   ·cases tT
  ·cases tT
end
section
variable{P:Program}{w0:World}{U:Rn}{S:St}{w:World}
theorem CD (h:Rel P w0 U S w){A:aM}{a:Act} (hA:vN P U A a):∀{parts:List (Nat×Operand)} {k:List (Nat×Value)->Bool},BE A parts k=true->
 ∃ps,k ps=true/\Cs U ps (parts.map fun p=>(p.1,a.eval p.2)):=by
 intro parts;induction parts with
 | nil=>intro k hk;exact⟨[],hk,rfl,by simp⟩
 | cons p parts ih=>
  intro k hk;obtain⟨v,hv,hr⟩:=aK h hA (show rQ A p.2 (fun v=>BE A parts fun l=>k ((p.1,v)::l))=true from hk);obtain⟨ps,YA,hrs⟩:=ih hv;refine⟨(p.1,v)::ps,YA,by simp [hrs.1],fun j q q' x y=>?_⟩;cases j with
  | zero=>simp at x y;subst x y;exact⟨rfl,hr⟩
  | succ j=>simp at x;exact hrs.2 j q q' x (by simpa using y)
theorem Lj:∀(fs:List Field) (pl:List (Nat×Nat)),placesOf P fs=some pl->∀w,(fs.mapM (fun f=>(do pure (f.offset,<-sizeOf f.type):Sem (Nat×Nat)))).run P w= .ok pl w:=by
 intro fs;induction fs with
 | nil=>intro pl h w;simp [placesOf]at h;subst h;rfl
 | cons f fs ih=>
  intro pl h w;simp only [placesOf,VV]at h;cases hs:bP P f.type with
  | none=>simp [hs]at h
  | some s=>
   cases hp:fs.mapM (fun f=>(bP P f.type).map fun s=>(f.offset,s))with
   | none=>simp [hs,hp]at h
   | some pl'=>
    simp [hs,hp]at h;subst h;have:=ih pl' hp w;simp only [VV,bY,gD hs,dK,iY,this]
theorem SG (h:Rel P w0 U S w){A:aM}{a:Act} (hA:vN P U A a){t:TypeId}{parts:Array (Nat×Operand)}{K:Value->Bool} (hk:Cp P A t parts.toList K=true):
 ∃v v',K v=true/\VR U v v'/\∀w,(Instr.build t (parts.map fun p=>(p.1,a.eval p.2))).run P w= .ok v' w:=by
 unfold Cp at hk;split at hk
 ·rename_i zero fields hz hu
  split at hk
  ·rename_i pl rP
   split at hk
   ·rename_i YB
    obtain⟨ps,hk,YA⟩:=CD h hA hk;have Im:kK U zero zero:= .flat (by rw [jJ]at YB;exact dL.1 YB);obtain⟨out,Hg,g1,g2,g3,_⟩:=FD (place':=(pl.toArray[·]?)) (cells':=⟨zero⟩) (by intro i q hq;simpa using hq) hk YA Im;refine⟨_,.agg Hg,g1,.Lh g3,fun w=>?_⟩;obtain⟨zv,YC,Av⟩:=yP hz w;have ez:zv.cells=⟨zero⟩:=gW.1 Av;have hpr:=Lj fields.toList pl rP w
    have aNN:(fields.mapM (fun f=>(do pure (f.offset,<-sizeOf f.type):Sem (Nat×Nat)))).run P w= .ok pl.toArray w:=by
     rw [Array.mapM_eq_mapM_toList,Sem.run_map,hpr];rfl
    simp only [Instr.build,bY,YC,dK,run_underlying hu,aNN,ez];have e2:(parts.map fun p=>(p.1,a.eval p.2)).toList=parts.toList.map fun p=>(p.1,a.eval p.2):=by simp
    rw [e2,g2];rfl
   ·cases hk
  ·cases hk
 ·rename_i zero n elem hz hu
  split at hk
  ·rename_i size hsz
   split at hk
   ·rename_i YB
    obtain⟨ps,hk,YA⟩:=CD h hA hk;have Im:kK U zero zero:= .flat (by rw [jJ]at YB;exact dL.1 YB);obtain⟨out,Hg,g1,g2,g3,_⟩:=FD (place':=fun i=>some (i*size,size)) (cells':=⟨zero⟩) (by intro i q hq;exact hq) hk YA Im;refine⟨_,.agg Hg,g1,.Lh g3,fun w=>?_⟩;obtain⟨zv,YC,Av⟩:=yP hz w;have ez:zv.cells=⟨zero⟩:=gW.1 Av;have e2:(parts.map fun p=>(p.1,a.eval p.2)).toList=parts.toList.map fun p=>(p.1,a.eval p.2):=by simp
    simp only [Instr.build,bY,YC,dK,run_underlying hu,gD hsz,ez];rw [e2,g2];rfl
   ·cases hk
  ·cases hk
 ·cases hk
theorem Rel.NQ (h:Rel P w0 U S w){cs cs':List Value} (vL:kK U cs cs') (t:TypeId){K:Nat->St->Bool} (hk:sP S (.cells cs t .exact) K=true):
 ∃U' S' w',K S.n S'=true/\w'=w.alloc (.cells ⟨cs'⟩ t)/\Rel P w0 U' S' w'/\sQ U w U' w'/\∃L,U' S.n=some L/\L.b=w.heap.size/\L.s=0:=by
 rw [gG]at hk;obtain⟨h1,h2⟩:=h.aDM vL t 0;exact⟨_,_,_,hk,rfl,h1,h2,_,Rn.jN _ _ _,rfl,rfl⟩
theorem Rel.aGU (h:Rel P w0 U S w) (ob:Obj){K:Nat->St->Bool} (hk:sP S .dead K=true):
 ∃U' S' w',K S.n S'=true/\w'=w.alloc ob/\Rel P w0 U' S' w'/\sQ U w U' w'/\∃L,U' S.n=some L/\L.b=w.heap.size/\L.s=0:=by
 rw [gG]at hk;obtain⟨h1,h2⟩:=h.new .dead ob ⟨w.heap.size,0,0,0⟩ rfl (fun _ _ _=>trivial) (fun _ hi=>nomatch hi);exact⟨_,_,_,hk,rfl,h1,h2,_,Rn.jN _ _ _,rfl,rfl⟩
theorem VR.aJz{i:Nat}{L:Loc} (h:U i=some L){b:Nat} (hb:L.b=b) (hs:L.s=0):VR U (.pointer (some ⟨i,0,none⟩)) (.pointer (some ⟨b,0,none⟩)):=by
 have:=VR.ptr (o:=0) h;rw [hb,hs]at this;exact this
theorem VR.Cu{i:Nat}{L:Loc} (h:U i=some L){b:Nat} (hb:L.b=b) (hs:L.s=0) (n c:Nat):VR U (.slice (some ⟨i,0,none⟩) n c) (.slice (some ⟨b,0,none⟩) n c):=by
 have:=VR.slice (o:=0) (n:=n) (c:=c) h;rw [hb,hs]at this;exact this
theorem Xj (h:Rel P w0 U S w){t:TypeId}{x x':Value}{K:VK} (hk:Qf t x S K=true) (hx:VR U x x'):
 ∃U' v S' v' w',K v S'=true/\(Instr.box t x').run P w= .ok v' w'/\VR U' v v'/\Rel P w0 U' S' w'/\sQ U w U' w':=by
 unfold Qf at hk;obtain⟨cs,hk,_,vL,_⟩:=zO hk hx;obtain⟨U',S',w',hk,hw,h1,h2,L,hL,hb,hs⟩:=h.NQ vL t hk;exact⟨U',_,S',_,w',hk,by subst hw;simp [Instr.box,newVar,newRow],.aJz hL hb hs,h1,h2⟩
theorem Lk (h:Rel P w0 U S w){t:TypeId}{K:VK} (hk:LF P t S K=true):
 ∃U' v S' v' w',K v S'=true/\(Instr.alloc t true (.tuple #[])).run P w= .ok v' w'/\VR U' v v'/\Rel P w0 U' S' w'/\sQ U w U' w':=by
 unfold LF at hk;split at hk
 ·rename_i zero hz
  split at hk
  ·rename_i YB
   rw [aAV]at hk;have Im:kK U zero zero:= .flat (by rw [jJ]at YB;exact dL.1 YB);obtain⟨U',S',w',hk,hw,h1,h2,L,hL,hb,hs⟩:=h.NQ Im t hk;obtain⟨zv,YC,Av⟩:=yP hz w;have ez:zv.cells=⟨zero⟩:=gW.1 Av;exact⟨U',_,S',_,w',hk,by subst hw;simp [Instr.alloc,YC,newVar,newRow,ez],.aJz hL hb hs,h1,h2⟩
  ·cases hk
 ·cases hk
theorem Cv{t:TypeId}{z:List Value} (h:sH P t=some z){i:TypeInfo} (hi:P.info? t=some i):∃v,i.zero=some v/\v.cells.toList=z:=by
 unfold sH at h;rw [hi]at h;cases hz:i.zero with
 | none=>simp [hz]at h
 | some v=>simp [hz]at h;exact⟨v,rfl,h⟩
theorem DJ (zero:List Value) (z:Array Value) (hz:z.toList=zero) (n:Nat) (h0:zero≠[]):(Array.range (n*zero.length)).map (fun i=>z[i%z.size]!)=⟨(List.replicate n zero).flatten⟩:=by
 apply gW.1;have hsz:z.size=zero.length:=by rw [<-hz];rfl
 have QN:0<zero.length:=List.length_pos_iff.2 h0;apply uH;intro j;simp only [Array.toList_map,Array.toList_range,hsz];have hlen:(List.replicate n zero).flatten.length=n*zero.length:=by simp
 by_cases hj:j<n*zero.length
 ·rw [lA,Cg hj]
  have hm:j%zero.length<zero.length:=Nat.mod_lt _ QN
  have e1:z[j%zero.length]! =zero[j%zero.length]:=by
   rw [getElem!_pos z _ (by omega)];subst hz;rfl
  have e2:∀n j,j<n*zero.length->(List.replicate n zero).flatten[j]? =some (zero[j%zero.length]'(Nat.mod_lt _ QN)):=by
   intro n;induction n with
   | zero=>intro j hj;simp at hj
   | succ n ih=>
    intro j hj;simp only [Kt,VP];by_cases h1:j<zero.length
    ·rw [fQ h1,aS h1]
     congr 1;simp [Nat.mod_eq_of_lt h1]
    ·rw [iO (by omega),ih (j-zero.length) (by rw [Nat.succ_mul]at hj;omega)]
     congr 1
     simp only [Nat.mod_eq_sub_mod (show j>=zero.length by omega)]
  rw [e2 n j hj];simp [e1]
 ·rw [DC (by simp;omega),DC (by rw [hlen];omega)]
theorem WF (h:Rel P w0 U S w){t:TypeId}{l l' c c':Value}{K:VK} (hk:sZ P t l c S K=true) (hl:VR U l l') (hc:VR U c c'):
 ∃U' v S' v' w',K v S'=true/\(Instr.makeSlice t l' c').run P w= .ok v' w'/\VR U' v v'/\Rel P w0 U' S' w'/\sQ U w U' w':=by
 unfold sZ at hk;split at hk
 ·rename_i k1 l k2 c
  rw [hl.of_flat rfl,hc.of_flat rfl];split at hk
  ·rename_i elem he
   have hu:=fS he;split at hk
   ·rename_i info zero hi hz
    split at hk
    ·rename_i q h1 h2 h3 h4 h5
     have h1:=bE h1;have h2:=bE h2;have h3:=bE h3;have h4:=cV h4;split at hk
     ·rename_i YB
      obtain⟨zv,hzi,Av⟩:=Cv hz hi;have uR:zero≠[]:=by intro e;rw [e]at h4;simp at h4;omega
      have WG:=DJ zero zv.cells Av c uR
      have h2':(info.bytes:Int)*(c:Int)<=1099511627776:=by
       have:((info.bytes*c:Nat):Int)<=1099511627776:=by omega
       rwa [Int.natCast_mul]at this
      have hr:=run_make (P:=P) w t elem info zv hu hi hzi k1 k2 l c (by omega) (by omega) (by omega) (by omega);simp only [Int.toNat_natCast]at hr;have hm:madeCells zv.cells (c*info.size)=⟨(List.replicate c zero).flatten⟩:=by rw [<-WG,h4];rfl
      split at hk
      ·rw [zP]at hk
       have Im:kK U zero zero:= .flat (by rw [jJ]at YB;exact dL.1 YB);obtain⟨U',S',w',hk,hw,g1,g2,L,hL,hb,hs⟩:=h.NQ (Im.flatten c) elem hk;refine⟨U',_,S',_,w',hk,hr.trans ?_,.Cu hL hb hs l c,g1,g2⟩;rw [hw,hm]
      ·obtain⟨U',S',w',hk,hw,g1,g2,L,hL,hb,hs⟩:=h.aGU (.cells ⟨(List.replicate c zero).flatten⟩ elem) hk
       refine⟨U',_,S',_,w',hk,hr.trans ?_,.Cu hL hb hs l c,g1,g2⟩;rw [hw,hm]
     ·cases hk
    ·cases hk
   ·cases hk
  ·cases hk
 ·cases hk
end
section
variable{P:Program}{w0:World}{U:Rn}{S:St}{w:World}
theorem SH (h:Rel P w0 U S w){A:aM}{a:Act} (hA:vN P U A a){t:TypeId}{len:Nat}{parts:Array (Nat×Operand)}{K:VK} (hk:vV P A t len parts.toList S K=true):
 ∃U' v S' v' w',K v S'=true/\(Instr.buildSlice t len (parts.map fun p=>(p.1,a.eval p.2))).run P w= .ok v' w'/\VR U' v v'/\Rel P w0 U' S' w'/\sQ U w U' w':=by
 unfold vV at hk;split at hk
 ·rename_i elem he
  have hu:=fS he;split at hk
  ·rename_i size zero hsz hz
   split at hk
   ·rename_i h1 h2
    have h1:=bE h1;have h2:=cV h2;split at hk
    ·rename_i YB
     have Im:kK U zero zero:= .flat (by rw [jJ]at YB;exact dL.1 YB);rw [zP]at hk;obtain⟨ps,hk,YA⟩:=CD h hA hk;obtain⟨out,Hg,g1,g2,g3,_⟩:=FD (place':=fun i=>some (i*(size+1),size+1)) (cells':=⟨(List.replicate len zero).flatten⟩) (by intro i q hq;exact hq) hk YA (Im.flatten len);obtain⟨U',S',w',hk,hw,r1,r2,L,hL,hb,hs⟩:=h.NQ g3 elem g1;refine⟨U',_,S',_,w',hk,?_,.Cu hL hb hs len len,r1,r2⟩;obtain⟨zv,YC,Av⟩:=yP hz w;have uR:zero≠[]:=by intro e;rw [e]at h2;simp at h2
     have e2:(parts.map fun p=>(p.1,a.eval p.2)).toList=parts.toList.map fun p=>(p.1,a.eval p.2):=by simp
     have hc:¬len*(size+1)>2 ^ 24:=by omega
     rw [hw];by_cases h0:len*(size+1)=0
     ·have hl0:len=0:=by
       rcases Nat.mul_eq_zero.1 h0 with h0 | h0
       ·exact h0
       ·omega
      subst hl0;have e3:(⟨(List.replicate 0 zero).flatten⟩:Array Value)= #[]:=by simp
      rw [e3]at g2;have e4:∀f:Nat->Value,(Array.range 0).map f= #[]:=fun f=>by simp
      simp only [Instr.buildSlice,bY,run_underlying hu,dK,gD hsz,GG,e4,e2,g2,newRow];rfl
     ·have WG:=DJ zero zv.cells Av len uR
      rw [h2]at WG;simp only [Instr.buildSlice,bY,run_underlying hu,dK,gD hsz,if_neg hc,if_neg h0,YC,iY,WG,e2,g2,newRow];rfl
    ·cases hk
   ·cases hk
  ·cases hk
 ·cases hk
end
section
variable{P:Program}{w0:World}{U:Rn}{S:St}{w:World}
theorem Ll (l:List UInt8) (k:List Value->Bool):aDK l k=k (l.map fun b=> .int .u8 (b.toNat:Int)):=by
 induction l generalizing k with
 | nil=>rfl
 | cons b l ih=>
  show cG b.toNat (fun n=>aDK l fun t=>k (.int .u8 (.ofNat n)::t))=_;rw [aY,ih];rfl
theorem YD:∀{l:List Value} {k:List UInt8->Bool},Xh l k=true->∃ns:List Nat,k (ns.map UInt8.ofNat)=true/\l=ns.map (fun n=> .int .u8 (.ofNat n)):=by
 intro l;induction l with
 | nil=>intro k hk;exact⟨[],hk,rfl⟩
 | cons v l ih=>
  intro k hk;unfold Xh at hk;rw [aO]at hk;split at hk
  ·rename_i n
   obtain⟨ns,h1,h2⟩:=ih (k:=fun t=>k (UInt8.ofNat n::t)) hk;exact⟨n::ns,h1,by rw [h2];rfl⟩
  ·cases hk
theorem kK.aAW{l l':List Value} (h:kK U l l') (hf:∀v∈l,bA v=true):l'=l:=by
 apply uH;intro k;cases hk:l[k]? with
 | none=>exact h.get_none hk
 | some x=>
  obtain⟨x',YE,hr⟩:=h.get hk;rw [YE,hr.of_flat (hf x (rB hk))]
theorem Qi (h:Rel P w0 U S w){src dst:TypeId}{x x':Value}{K:VK} (hk:XX P src dst x S K=true) (hx:VR U x x'):
 ∃U' v S' v' w',K v S'=true/\(convert src dst x').run P w= .ok v' w'/\VR U' v v'/\Rel P w0 U' S' w'/\sQ U w U' w':=by
 unfold XX at hk;split at hk
 ·rename_i kd n
  cases hx.of_flat rfl;split at hk
  ·rename_i d k hs hd
   unfold GH at hk;rw [mI,LI]at hk;refine⟨U,_,S,_,w,hk,?_,.flat rfl,h,.refl U w⟩;simp [convert,run_underlying hs,run_underlying hd,Conv.intToInt]
  ·cases hk
 ·rename_i s
  cases hx.of_flat rfl;split at hk
  ·rename_i hs hd
   refine⟨U,_,S,_,w,hk,?_,.flat rfl,h,.refl U w⟩;simp [convert,run_underlying hs,run_underlying hd]
  ·rename_i e hs hd
   split at hk
   ·rename_i he h1
    rw [Ll,jT,gG]at hk;have Lm:=grownCap_ge w s.size 0 e;generalize hcc:grownCap w s.size 0 e=cc at Lm
    let bs:List Value:=s.data.toList.map (fun b:UInt8=>Value.int .u8 (b.toNat:Int))
    let zs:List Value:=List.replicate (cc-s.size) (.int .u8 0)
    have hbl:bs.length=s.size:=by show(List.map _ _).length=_;rw [DD];rfl
    have Ps:zs.length=cc-s.size:=List.length_replicate;have Xk:bytesRow s cc=⟨bs++zs⟩:=by apply gW.1;simp [bytesRow,bs,zs]
    have hsz:(bytesRow s cc).size=cc:=by rw [Xk];show(bs++zs).length=_;rw [bW];omega
    have Gx:kK U bs bs:= .flat (by simp [bs,bA]);obtain⟨r1,r2⟩:=h.drew.Qj (more:=zs) Gx e h1 ((bytesRow s cc).size,(bytesRow s cc).size+1) (by intro x hx;rw [bW]at hx;omega) [] (by simp);have dD:=run_bytes_of_string w src dst e s hs hd he;rw [hcc,Xk]at dD;rw [Xk]at r1 r2;refine⟨_,_,_,_,_,hk,dD,?_,r1,(sQ.drew U w).trans r2⟩;have hL:=Rn.jN U S.n ⟨w.drew.heap.size,0,(bs++zs).length,1⟩;have:=VR.oG (o:=0) (n:=s.size) (c:=s.size) (c':=cc) hL Lm (bN _) (by simp only [bW];omega) Nat.one_pos;rw [DD];exact this
   ·cases hk
  ·cases hk
 ·rename_i n c
  cases hx.of_flat rfl;split at hk
  ·rename_i e hs hd
   split at hk
   ·rename_i he
    exact⟨U,_,S,_,w,hk,run_convert_bytes_nil w src e hs he _ _ dst hd,.flat rfl,h,.refl U w⟩
   ·cases hk
  ·cases hk
 ·rename_i i o sp len c
  split at hk
  ·cases hk
  ·rename_i e hs hd AA
   split at hk
   ·rename_i he
    rcases hx.iG with ⟨L,c',hL,rfl,_⟩ | ⟨⟨s1,h1⟩,rfl,rfl,_⟩
    ·obtain⟨vs,e',ck,ho,hle,hk⟩:=rG hk
     obtain⟨l',Qk,hlen,hc⟩:=h.vW ho hL hle;obtain⟨ns,hk,hns⟩:=YD hk;rw [hns]at Qk;have aJA:l'=ns.map (fun n=> .int .u8 (.ofNat n)):=Qk.aAW (by simp [bA]);refine⟨U,_,S,_,w,hk,?_,.flat rfl,h,.refl U w⟩;rw [run_convert_bytes_string w src dst e _ _ _ hs he hd];have Aw:=run_loadCells (P:=P) ⟨L.b,L.s+o,none⟩ l' hlen hc;rw [aJA]at Aw;have e1:(⟨ns.map (fun n=>Value.int .u8 (.ofNat n))⟩:Array Value)=((ns.map Int.ofNat).map (Value.int .u8)).toArray:=by simp [List.map_map,Function.comp_def]
     rw [e1]at Aw;rw [run_bytesToString w _ _ _ _ Aw]
     congr 2
     have hf:∀(l:List Nat) (r:ByteArray),(l.map Int.ofNat).foldl (fun r (n:Int)=>r.push (UInt8.ofNat n.toNat)) r=⟨r.data++(l.map UInt8.ofNat).toArray⟩:=by
      intro l;induction l with
      | nil=>intro r;simp
      | cons b l ih=>intro r;simp only [vK,PY,ih];simp [ByteArray.push]
     rw [hf];have he0:ByteArray.empty.data= #[]:=rfl;rw [he0];simp
    ·subst h1;exact absurd rfl (AA _)
   ·cases hk
  ·cases hk
 ·cases hk
end
end Go.Am
namespace Go.Am
open Go.RowKit Go.MapKept
section
variable{P:Program}{w0:World}{U:Rn}{S:St}{w:World}
theorem Rel.aGV (h:Rel P w0 U S w){i:Nat}{o o':gV} (ho:S.obj i=some o) (hd:o.vO=false) (hr:o.reads=false) (Cw:o.olds=[]){L:Loc} (hL:U i=some L) (hb:w0.heap.size<=L.b)
 (aJB:o'.olds=[]) (ob:Obj) (oL:(w.putObj L.b ob).heap[L.b]? =some ob->yQ P w0 U (w.putObj L.b ob) i o'):Rel P w0 U (S.set i o') (w.putObj L.b ob)/\sQ U w U (w.putObj L.b ob):=by
 have hlt:=h.loc i L hL;have oL:=oL (World.putObj_heap_same hlt)
 have uR:∀j x,j≠i->S.obj j=some x->x.vO=false->∀M,U j=some M->M.b≠L.b:=by
  intro j x Ln hx hxd M hM e;rcases h.sep i j o x L M (dV Ln) ho hx hd hxd hL hM e.symm with ⟨h1,_⟩ | h1 | h1
  ·rw [hr]at h1;cases h1
  ·rw [Cw]at h1;cases h1
  ·cases x with
   | cells vs t k=>
    cases k with
    | grown olds=>
     obtain⟨_,h2⟩:=h.old j vs t olds hx i h1;rcases h2 o ho with h3 | ⟨ws,t',h3,_⟩
     ·rw [h3]at hd;cases hd
     ·rw [h3]at hr;cases hr
    | _=>cases h1
   | _=>cases h1
 have wX:∀j x,(S.set i o').obj j=some x->(j=i/\x=o')\/(j≠i/\S.obj j=some x):=fun j x hx=>by
  rw [zQ]at hx;by_cases e:j=i
  ·rw [if_pos e]at hx;injection hx with hx;exact .inl ⟨e,hx.symm⟩
  ·rw [if_neg e]at hx;exact .inr ⟨e,hx⟩
 refine h.aR (S':=S.set i o') hb ⟨i,L,hL,rfl⟩ rfl (putObj_size _ _) (fun c hc=>gH hc) rfl rfl rfl (fun j x hx=>?_) (fun a b x y M N hab hx hy hxd hyd hM hN ZY=>?_) (fun j vs e olds hj q hq=>?_)
 ·rcases wX j x hx with ⟨rfl,rfl⟩ | ⟨e,hx⟩
  ·exact .inr (.inr ⟨h.lt j o ho,oL⟩)
  ·cases hxd:x.vO with
   | true=>exact .inl ⟨rfl,h.lt j x hx⟩
   | false=>exact .inr (.inl ⟨hx,uR j x e hx hxd⟩)
 ·rcases wX a x hx with ⟨e1,_⟩ | ⟨ea,QO⟩<;>rcases wX b y hy with ⟨e2,_⟩ | ⟨eb,hy1⟩
  ·exact absurd (e1.trans e2.symm) hab
  ·rw [e1,hL]at hM;injection hM with hM;subst hM;exact absurd ZY.symm (uR b y eb hy1 hyd N hN)
  ·rw [e2,hL]at hN;injection hN with hN;subst hN;exact absurd ZY (uR a x ea QO hxd M hM)
  ·exact h.sep a b x y M N hab QO hy1 hxd hyd hM hN ZY
 ·rcases wX j _ hj with ⟨rfl,e2⟩ | ⟨e,hj⟩
  ·rw [<-e2]at aJB;simp only [gV.olds]at aJB;subst aJB;cases hq
  ·obtain⟨h1,h2⟩:=h.old j vs _ olds hj q hq
   refine⟨h1,fun x hx=>?_⟩;rcases wX q x hx with ⟨rfl,rfl⟩ | ⟨e',hx⟩
   ·rcases h2 o ho with h3 | ⟨ws,t',h3,_⟩
    ·rw [h3]at hd;cases hd
    ·rw [h3]at hr;cases hr
   ·exact h2 x hx
theorem CU{m:Value}{k:Option Nat->List MapEntry->Nat->Bool} (hk:Le S m k=true):
 (m= .map none/\k none [] 0=true)\/∃r es c,m= .map (some r)/\S.obj r=some (.map es c)/\k (some r) es c=true:=by
 unfold Le at hk;split at hk
 ·exact .inl ⟨rfl,hk⟩
 ·rename_i r
  rw [lB]at hk;cases ho:S.h.get r with
  | none=>rw [ho]at hk;cases hk
  | some o=>
   rw [ho]at hk;cases o with
   | map es c=>exact .inr ⟨r,es,c,rfl,ho,hk⟩
   | _=>cases hk
 ·cases hk
theorem VR.CE{r:Nat}{v':Value} (h:VR U (.map (some r)) v'):∃L,U r=some L/\v'= .map (some L.b):=by
 cases h with
 | flat h=>simp [bA]at h
 | map h=>exact⟨_,h,rfl⟩
theorem Rel.map (h:Rel P w0 U S w){r:Nat}{es:List MapEntry}{c:Nat} (ho:S.obj r=some (.map es c)){L:Loc} (hL:U r=some L):∃iD,w0.heap.size<=L.b/\w.heap[L.b]? =some (.map iD c)/\fN U es iD.toList:=by
 obtain⟨M,iD,h1,h2,h3,h4⟩:=h.DK r _ ho;rw [hL]at h1;injection h1 with h1;subst h1;exact⟨iD,h2,h3,h4⟩
theorem SI{t:TypeId} (h:pM P t=true):IN P t=none:=by
 cases hs:IN P t with
 | none=>rfl
 | some fs=>obtain⟨hu,_⟩:=AC hs;unfold pM at h;rw [hu]at h;cases h
theorem Lo{t:TypeId} (h:pM P t=true){a b:Value}{k:Bool->Bool} (hk:BF P t a b k=true):sI P t a b k=true:=by
 unfold BF at hk;split at hk
 ·unfold nX at hk
  simp only [SI h]at hk;cases hk
 ·exact hk
theorem Ql{t:TypeId}{kd:TypeDesc} (hu:P.underlying t=some kd){a b:Value}{k:Bool->Bool} (hk:sI P t a b k=true):∃e,k e=true/\Instr.sameNow kd a b=some e:=by
 unfold sI at hk;rw [hu]at hk;split at hk
 ·rename_i q hq
  injection hq with hq;subst hq;split at hk
  ·rename_i j x l y
   split at hk
   ·rename_i hj
    have:=DL hj;subst this;rw [nQ,tD]at hk;exact⟨_,hk,by simp [Instr.sameNow]⟩
   ·cases hk
  ·cases hk
 ·rename_i hq
  injection hq with hq;subst hq;split at hk
  ·rename_i x y
   rw [nQ,CF]at hk
   have e:(x==y)=(x.data.toList==y.data.toList):=by
    rw [pL,bytes_beq,beq_iff_eq];exact⟨fun h=>by rw [h],fun h=>ByteArray.ext (gW.1 h)⟩
   exact⟨_,hk,by rw [<-e];rfl⟩
  ·cases hk
 ·rename_i hq
  injection hq with hq;subst hq;split at hk
  ·rw [nQ]at hk
   exact⟨_,hk,rfl⟩
  ·cases hk
 ·cases hk
def findAux (P:Program) (t:TypeId) (key:Value) (k:Option (Nat×MapEntry)->Bool) (es:List MapEntry):Nat->Bool:=
 fE (β:=Nat->Bool) (fun _=>k none) (fun e _ ih i=>BF P t key e.key fun b=>match b with | true=>k (some (i,e)) | false=>cG (Nat.succ i) ih) es
def Io (i:Nat) (l l':List MapEntry) (r:Option (Nat×MapEntry)) (r':Option (Nat×Value)):Prop:=
 (r=none/\r'=none)\/∃j e e',r=some (i+j,e)/\l[j]? =some e/\l'[j]? =some e'/\r'=some (i+j,e'.val)
theorem fN.cons_inv{e:MapEntry}{l l':List MapEntry} (h:fN U (e::l) l'):∃e' t',l'=e'::t'/\LJ U e e'/\fN U l t':=by
 cases l' with
 | nil=>have:=h.1;simp at this
 | cons e' t'=>exact⟨e',t',rfl,h.2 0 e e' rfl rfl,by simpa using h.1,fun k x y a b=>h.2 (k+1) x y (by simpa using a) (by simpa using b)⟩
theorem Io.step{i:Nat}{e e':MapEntry}{l l':List MapEntry}{r:Option (Nat×MapEntry)}{r':Option (Nat×Value)} (h:Io (i+1) l l' r r'):Io i (e::l) (e'::l') r r':=by
 rcases h with h | ⟨j,x,x',h1,h2,h3,h4⟩
 ·exact .inl h
 ·exact .inr ⟨j+1,x,x',by rw [h1];congr 2;omega,by simpa using h2,by simpa using h3,by rw [h4];congr 2;omega⟩
theorem Hh{t:TypeId}{kd:TypeDesc} (hp:pM P t=true) (hu:P.underlying t=some kd){key:Value}{k:Option (Nat×MapEntry)->Bool}:∀(l l':List MapEntry) (i:Nat),findAux P t key k l i=true->fN U l l'->
 ∃r r',k r=true/\Instr.findNow kd key l' i=some r'/\Io i l l' r r':=by
 intro l;induction l with
 | nil=>
  intro l' i hk hl;have:l'=[]:=lZ (by simpa using hl.1.symm);subst this;exact⟨none,none,hk,rfl,.inl ⟨rfl,rfl⟩⟩
 | cons e l ih=>
  intro l' i hk hl;obtain⟨e',t',rfl,he,ht⟩:=hl.cons_inv;obtain⟨b,hb,hs⟩:=Ql hu (Lo hp (show BF P t key e.key (fun b=>match b with | true=>k (some (i,e)) | false=>cG (Nat.succ i) (findAux P t key k l))=true from hk));rw [<-he.1]at hs;cases b with
  | true=>exact⟨_,_,hb,by simp only [Instr.findNow,hs];rfl,.inr ⟨0,e,e',rfl,rfl,rfl,rfl⟩⟩
  | false=>
   simp only [aY]at hb;obtain⟨r,r',h1,h2,h3⟩:=ih t' (i+1) hb ht;exact⟨r,r',h1,by simp only [Instr.findNow,hs,h2],h3.step⟩
theorem Cy{t:TypeId}{fs:List Field} (hp:IN P t=some fs){key:Value} (tF:iZ key=true){xs:Array Value} (hx:key= .agg xs){k:Option (Nat×MapEntry)->Bool}:∀(l l':List MapEntry) (i:Nat),
 findAux P t key k l i=true->fN U l l'->∃r r',k r=true/\(∀w,(Instr.findAsking t key l' i).run P w= .ok r' w)/\Io i l l' r r':=by
 intro l;induction l with
 | nil=>
  intro l' i hk hl;have:l'=[]:=lZ (by simpa using hl.1.symm);subst this;exact⟨none,none,hk,fun w=>rfl,.inl ⟨rfl,rfl⟩⟩
 | cons e l ih=>
  intro l' i hk hl;obtain⟨e',t',rfl,he,ht⟩:=hl.cons_inv;have hk:BF P t key e.key (fun b=>match b with | true=>k (some (i,e)) | false=>cG (Nat.succ i) (findAux P t key k l))=true:=hk
  have hk:nX P t key e.key (fun b=>match b with | true=>k (some (i,e)) | false=>cG (Nat.succ i) (findAux P t key k l))=true:=by
   unfold BF at hk;split at hk
   ·exact hk
   ·unfold sI at hk
    rw [(AC hp).1]at hk;cases hk
  obtain⟨b,hb,hs,_⟩:=IP (U:=U) hk (VR.iZ tF) (VR.iZ he.2.1);rw [<-he.1]at hs;cases b with
  | true=>exact⟨_,_,hb,fun w=>by simp [Instr.findAsking,hs],.inr ⟨0,e,e',rfl,rfl,rfl,rfl⟩⟩
  | false=>
   simp only [aY]at hb;obtain⟨r,r',h1,h2,h3⟩:=ih t' (i+1) hb ht;exact⟨r,r',h1,fun w=>by simp [Instr.findAsking,hs,h2],h3.step⟩
theorem vP{t:TypeId}{key:Value} (h:JR P t key=true):iZ key=true/\(pM P t=true\/pM P t=false/\∃fs cs,IN P t=some fs/\key= .agg cs/\fs.length<=cs.toList.length):=by
 unfold JR at h;split at h
 ·rename_i hf
  refine⟨hf,?_⟩;split at h
  ·exact .inl (by assumption)
  ·rename_i h1
   split at h
   ·rename_i fs cs h2
    exact .inr ⟨h1,fs,cs,h2,rfl,bE h⟩
   ·cases h
 ·cases h
theorem FE{t:TypeId}{key:Value} (tF:JR P t key=true){l l':List MapEntry}{k:Option (Nat×MapEntry)->Bool} (hk:XY P t key l k=true) (hl:fN U l l'):
 ∃r r',k r=true/\(∀w,(Instr.findKey t key l').run P w= .ok r' w)/\Io 0 l l' r r':=by
 have hk:findAux P t key k l 0=true:=hk;obtain⟨hf,hp | ⟨_,fs,cs,hs,hc,_⟩⟩:=vP tF
 ·cases hu:P.underlying t with
  | none=>unfold pM at hp;rw [hu]at hp;cases hp
  | some kd=>
   obtain⟨r,r',h1,h2,h3⟩:=Hh hp hu l l' 0 hk hl;exact⟨r,r',h1,fun w=>run_findKey hu h2,h3⟩
 ·obtain⟨r,r',h1,h2,h3⟩:=Cy hs hf hc l l' 0 hk hl
  refine⟨r,r',h1,fun w=>?_,h3⟩;have hu:=(AC hs).1;cases l' with
  | nil=>
   have h2:=h2 w;simp only [Instr.findAsking,iY]at h2;injection h2 with h2;rw [<-h2];exact run_findKey hu rfl
  | cons e l'=>
   simp only [Instr.findKey,bY,run_underlying hu,dK];have:Instr.findNow (.struct (P.fieldsOf t)) key (e::l') 0=none:=by simp [Instr.findNow,Instr.sameNow]
   rw [this];exact h2 w
theorem LK{t:TypeId} (hp:pM P t=true) (em:Bool) (n:Nat) (v:Value) (w:World):(Instr.checkKey em (n+1) t v).run P w= .ok () w:=by
 unfold pM at hp;split at hp<;>first | (cases hp;done) | (rename_i hu;cases v<;>simp [Instr.checkKey,run_underlying hu])
theorem Qm (em:Bool) (n:Nat) (cs:Array Value) (w:World):∀(fs:List Field) (i:Nat),tA P i fs=true->i+fs.length<=cs.toList.length->
 (forIn fs PUnit.unit (fun f (_:PUnit)=>do
  if f.name≠ "_" then Instr.checkKey em (n+1) f.type (<-part f.type cs f.offset)
  pure (ForInStep.yield PUnit.unit):Field->PUnit->Sem (ForInStep PUnit))).run P w= .ok PUnit.unit w:=by
 intro fs;induction fs with
 | nil=>intro i _ _;rfl
 | cons f fs ih=>
  intro i hp hl;simp only [tA,bT,beq_iff_eq,bne_iff_ne]at hp;obtain⟨⟨⟨aAX,aB1⟩,rP⟩,tG⟩:=hp;simp only [rZ]at hl;have hlt:i<cs.toList.length:=by omega
  have hg:cs.toList[i]? =some cs.toList[i]:=aS hlt;simp only [List.forIn_cons,bY,aAX,ne_eq,not_false_eq_true,if_true,aB1,LL rP hg,dK,LK rP,iY];exact ih (i+1) tG (by omega)
theorem gX{t:TypeId}{key:Value} (tF:JR P t key=true) (em:Bool) (w:World):(Instr.checkKey em 10000 t key).run P w= .ok () w:=by
 obtain⟨hf,hp | ⟨_,fs,cs,hs,rfl,hlen⟩⟩:=vP tF
 ·exact LK hp em 9999 key w
 ·obtain⟨hu,h2,h3,_,_⟩:=AC hs
  show(Instr.checkKey em (9999+1) t (.agg cs)).run P w=_;unfold Instr.checkKey;simp only [bY,run_underlying hu,dK];have:=Qm (P:=P) em 9998 cs w fs 0 h3 (by omega);rw [<-h2,Array.forIn_toList]at this;rw [this];rfl
end
section
variable{P:Program}{w0:World}{U:Rn}{S:St}{w:World}
theorem LM{n:Nat}{a b:Value} (ha:bA a=true) (hb:bA b=true) (h:Instr.sameBits n a b=true):a=b:=by
 cases a<;>first | (simp [bA]at ha;done) | skip
 all_goals (cases b<;>first | (simp [bA]at hb;done) | (simp [Instr.sameBits]at h;done) | skip)
 all_goals first
  | rfl
  | (simp [Instr.sameBits]at h;simp [h];done)
  | (rw [Instr.sameBits,bytes_beq]at h;rw [h];done)
  | (rename_i x y;cases x<;>cases y<;>first | rfl | (simp [bA]at ha;done) | (simp [bA]at hb;done))
theorem LN{n:Nat}{a b:Value} (ha:iZ a=true) (hb:iZ b=true) (h:Instr.sameBits (n+1) a b=true):a=b:=by
 by_cases hA:∃x,a= .agg x
 ·obtain⟨x,rfl⟩:=hA
  cases b with
  | agg y=>
   simp only [Instr.sameBits,bT,beq_iff_eq]at h;obtain⟨hs,h⟩:=h;have ha:∀v∈x.toList,bA v=true:=dL.1 ha;have hb:∀v∈y.toList,bA v=true:=dL.1 hb;have hs:x.toList.length=y.toList.length:=hs
   have h:∀(l m:List Value),l.length=m.length->(∀v∈l,bA v=true)->(∀v∈m,bA v=true)->((l.zip m).all fun(a,b)=>Instr.sameBits n a b)=true->l=m:=by
    intro l;induction l with
    | nil=>intro m hm _ _ _;exact(lZ (by simpa using hm.symm)).symm
    | cons a l ih=>
     intro m hm h1 h2 h3;cases m with
     | nil=>simp at hm
     | cons b m=>
      simp only [List.zip_cons_cons,VW,bT]at h3;rw [LM (h1 a (.head _)) (h2 b (.head _)) h3.1,ih m (by simpa using hm) (fun v hv=>h1 v (.tail _ hv)) (fun v hv=>h2 v (.tail _ hv)) h3.2]
   rw [gW.1 (h _ _ hs ha hb (by assumption))]
  | _=>simp [Instr.sameBits]at h
 ·have fa:bA a=true:=by cases a<;>first | exact ha | exact absurd ⟨_,rfl⟩ hA
  by_cases hB:∃x,b= .agg x
  ·obtain⟨x,rfl⟩:=hB
   cases a<;>first | (simp [Instr.sameBits]at h;done) | exact absurd ⟨_,rfl⟩ hA
  ·have fb:bA b=true:=by cases b<;>first | exact hb | exact absurd ⟨_,rfl⟩ hB
   exact LM fa fb h
theorem fN.Xl{l l':List MapEntry} (h:fN U l l'){i:Nat}{e e' x:MapEntry} (hi:l[i]? =some e) (OM:l'[i]? =some e') (f:MapEntry->MapEntry) (hx:LJ U x (f e')):fN U (l.set i x) (l'.modify i f):=by
 refine⟨by simp [h.1],fun k a b ha hb=>?_⟩;rw [Ck]at ha;rw [List.getElem?_modify]at hb;by_cases hk:i=k
 ·subst hk
  have:=(cZ.1 hi).1;rw [if_pos rfl,if_pos this]at ha;rw [OM]at hb;simp at ha hb;subst ha hb;exact hx
 ·rw [if_neg hk]at ha
  cases hl:l'[k]? with
  | none=>rw [hl]at hb;cases hb
  | some y=>rw [hl]at hb;simp [hk]at hb;subst hb;exact h.2 k a y ha hl
theorem fN.aNO{l l':List MapEntry} (h:fN U l l'){i:Nat}{e e':MapEntry} (hi:l[i]? =some e) (OM:l'[i]? =some e') (f:MapEntry->MapEntry) (hx:LJ U e (f e')):fN U l (l'.modify i f):=by
 have:=h.Xl hi OM f hx
 have e1:l.set i e=l:=by
  apply uH;intro k;rw [Ck];split
  ·rename_i hk;subst hk;split
   ·exact hi.symm
   ·rename_i hl;exact absurd (cZ.1 hi).1 hl
  ·rfl
 rwa [e1]at this
theorem fN.push{l l':List MapEntry} (h:fN U l l'){e e':MapEntry} (he:LJ U e e'):fN U (l++[e]) (l'++[e']):=by
 refine⟨by simp [h.1],fun k a b ha hb=>?_⟩;by_cases hk:k<l.length
 ·rw [fQ hk]at ha
  rw [fQ (by rw [<-h.1];exact hk)]at hb;exact h.2 k a b ha hb
 ·rw [iO (by omega)]at ha
  rw [iO (by rw [<-h.1];omega),<-h.1]at hb
  have:k-l.length=0:=by
   have:=(cZ.1 ha).1;simpa using this
  rw [this]at ha hb;simp at ha hb;subst ha hb;exact he
theorem fN.erase{l l':List MapEntry} (h:fN U l l') (i:Nat):fN U (l.eraseIdx i) (l'.eraseIdx i):=by
 refine⟨by simp [List.length_eraseIdx,h.1],fun k a b ha hb=>?_⟩;rw [List.getElem?_eraseIdx]at ha hb;split at ha
 ·rename_i hk;rw [if_pos hk]at hb;exact h.2 k a b ha hb
 ·rename_i hk;rw [if_neg hk]at hb;exact h.2 _ a b ha hb
theorem vX{t kt et:TypeId} (h:BG P t=some (kt,et)):P.underlying t=some (.map kt et):=by
 unfold BG at h;split at h
 ·rename_i hu;injection h with h;injection h with h1 h2;subst h1 h2;exact hu
 ·cases h
theorem WH{t:TypeId}{z:Value} (h:zeroV P t=some z) (w:World):(zeroValue t).run P w= .ok z w:=by
 unfold zeroV at h;cases hi:P.info? t with
 | none=>rw [hi]at h;cases h
 | some i=>rw [hi]at h;simp [zeroValue,aDN hi,show i.zero=some z from h]
theorem VR.key{kt:TypeId}{key Cz:Value} (h:VR U key Cz) (hk:JR P kt key=true):Cz=key:=h.Qn (vP hk).1
theorem PD (h:Rel P w0 U S w){t:TypeId}{x x' ix ix':Value}{ok:Bool}{K:VK} (hk:NP P t x ix ok S K=true) (hx:VR U x x') (hi:VR U ix ix'):
 ∃v v',K v S=true/\VR U v v'/\(Instr.lookup t x' ix' ok).run P w= .ok v' w:=by
 unfold NP at hk;split at hk
 ·rename_i kt et hm
  have hu:=vX hm;split at hk
  ·rename_i zero tF hz
   rw [hi.key tF]
   have main:∀(es:List MapEntry) (iD:Array MapEntry),fN U es iD.toList->XY P kt ix es (fun r=>match r with
    | some (_,e)=>match(generalizing:=false) ok with | true=>K (.tuple ⟨[e.val,.bool true]⟩) S | false=>K e.val S
    | none=>match iZ zero with
     | true=>match(generalizing:=false) ok with | true=>K (.tuple ⟨[zero,.bool false]⟩) S | false=>K zero S
     | false=>false)=true->
    ∃v v',K v S=true/\VR U v v'/\(do
     Instr.checkKey iD.isEmpty 10000 kt ix
     let(v,o)<-match<-Instr.findKey kt ix iD.toList with
      | some (_,v)=>pure (v,true)
      | none=>pure (<-zeroValue et,false)
     pure (if ok then .tuple #[v,.bool o]else v):Sem Value).run P w= .ok v' w:=by
    intro es iD NS hk;obtain⟨r,r',hk,dD,hr⟩:=FE tF hk NS;rcases hr with ⟨rfl,rfl⟩ | ⟨j,e,e',rfl,h1,h2,rfl⟩
    ·simp only at hk
     split at hk
     ·rename_i hfz
      have Im:VR U zero zero:=VR.iZ hfz;cases ok with
      | true=>exact⟨_,_,hk,.qD (.cons Im (.cons (.flat rfl) (.nil U))),by simp [gX tF,dD,WH hz]⟩
      | false=>exact⟨_,_,hk,Im,by simp [gX tF,dD,WH hz]⟩
     ·cases hk
    ·have hv:=(NS.2 j e e' h1 h2).2.2.2
     cases ok with
     | true=>exact⟨_,_,hk,.qD (.cons hv (.cons (.flat rfl) (.nil U))),by simp [gX tF,dD]⟩
     | false=>exact⟨_,_,hk,hv,by simp [gX tF,dD]⟩
   rcases CU hk with ⟨rfl,tC⟩ | ⟨r,es,c,rfl,ho,tC⟩
   ·cases hx.of_flat rfl
    obtain⟨v,v',h1,h2,h3⟩:=main [] #[] ⟨rfl,by simp⟩ tC;refine⟨v,v',h1,h2,?_⟩;rw [<-h3];simp [Instr.lookup,run_underlying hu];rfl
   ·obtain⟨L,hL,rfl⟩:=hx.CE
    obtain⟨iD,_,hb,NS⟩:=h.map ho hL;obtain⟨v,v',h1,h2,h3⟩:=main es iD NS tC;refine⟨v,v',h1,h2,?_⟩;rw [<-h3];simp [Instr.lookup,run_underlying hu,MapKept.run_getObj_map hb];rfl
  ·cases hk
 ·cases hk
theorem Rel.QP (h:Rel P w0 U S w){r:Nat}{es:List MapEntry}{c:Nat} (ho:S.obj r=some (.map es c)){L:Loc} (hL:U r=some L){o:Obj} (hb:w.heap[L.b]? =some o) (tH:w0.heap.size<=L.b){es2:List MapEntry}{Da:Array MapEntry}{c2:Nat} (he:fN U es2 Da.toList)
 (hob:∃iD c',o= .map iD c'):∃w',(setObj L.b (.map Da c2)).run P w= .ok () w'/\Rel P w0 U (S.set r (.map es2 c2)) w'/\sQ U w U w':=by
 obtain⟨iD,c',rfl⟩:=hob;obtain⟨r1,r2⟩:=h.aGV (o':= .map es2 c2) ho rfl rfl rfl hL tH rfl (.map Da c2) (fun hh=>⟨L,Da,hL,tH,hh,he⟩);exact⟨_,MapKept.run_setObj_map _ hb,r1,r2⟩
theorem Ip{a b:Value} (h:Instr.sameBits 10000 a b=true) (w:World):(Instr.keyThatStays a b).run P w= .ok b w:=by simp [Instr.keyThatStays,h]
theorem GW (h:Rel P w0 U S w){t:TypeId}{m m' key Cz x x':Value}{k:St->Bool} (hk:yO P t m key x S k=true) (hm:VR U m m') (Qo:VR U key Cz) (hx:VR U x x'):
 ∃S' w',k S'=true/\Rel P w0 U S' w'/\sQ U w U w'/\(Instr.mapUpdate t m' Cz x').run P w= .ok () w':=by
 unfold yO at hk;split at hk
 ·rename_i kt et hmt
  have hu:=vX hmt;split at hk
  ·rename_i tF
   rw [Qo.key tF];rcases CU hk with ⟨rfl,tC⟩ | ⟨r,es,c,rfl,ho,tC⟩
   ·cases tC
   ·obtain⟨L,hL,rfl⟩:=hm.CE
    obtain⟨iD,tH,hb,NS⟩:=h.map ho hL;have hk:=tC;simp only at hk;obtain⟨q,q',hk,dD,hr⟩:=FE tF hk NS;rcases hr with ⟨rfl,rfl⟩ | ⟨j,e,e',rfl,h1,h2,rfl⟩
    ·simp only [kL,aY,fZ]at hk
     obtain⟨w',hw,r1,r2⟩:=h.QP (P:=P) ho hL hb tH (es2:=es++[{key:=key,val:=x,born:=c}]) (Da:=iD.push {key:=key,val:=x',born:=c}) (c2:=c+1)
      (by rw [Array.toList_push];exact NS.push ⟨rfl,(vP tF).1,rfl,hx⟩) ⟨_,_,rfl⟩
     exact⟨_,w',hk,r1,r2,by simp [Instr.mapUpdate,run_underlying hu,MapKept.run_getObj_map hb,gX tF,dD,hw]⟩
    ·simp only [fK]at hk
     split at hk
     ·rename_i hsb
      rw [Db,fZ]at hk;have hrel:=NS.2 j e e' h1 h2;have hee:e.key=key:=LN hrel.2.1 (vP tF).1 hsb
      obtain⟨w',hw,r1,r2⟩:=h.QP (P:=P) ho hL hb tH (es2:=es.set j {e with val:=x}) (Da:=iD.modify j fun e=>{e with key:=key,val:=x'}) (c2:=c)
       (by rw [Xe];exact NS.Xl h1 h2 _ ⟨hee.symm,hrel.2.1,hrel.2.2.1,hx⟩) ⟨_,_,rfl⟩
      refine⟨_,w',hk,r1,r2,?_⟩;have h2':iD[j]? =some e':=by simpa using h2
      have:Instr.sameBits 10000 e'.key key=true:=by rw [hrel.1];exact hsb
      simp [Instr.mapUpdate,run_underlying hu,MapKept.run_getObj_map hb,gX tF,dD,h2',Ip this,hw]
     ·cases hk
  ·cases hk
 ·cases hk
theorem Rel.same (h:Rel P w0 U S w){O:St} (ho:∀j,S.obj j=O.obj j) (hn:S.n=O.n):Rel P w0 U O w:=
 ⟨h.ZZ,fun i o hi=>h.DK i o ((ho i).trans hi),fun i hi=>h.Pt i (by omega),fun i o hi=>by rw [<-hn];exact h.lt i o ((ho i).trans hi),h.loc,
  fun i j a b L M KE ha hb=>h.sep i j a b L M KE ((ho i).trans ha) ((ho j).trans hb),
  fun j vs e olds hj i hi=>by rw [<-hn];obtain⟨h1,h2⟩:=h.old j vs e olds ((ho j).trans hj) i hi;exact⟨h1,fun o hx=>h2 o ((ho i).trans hx)⟩,h.base⟩
theorem Aa (h:Rel P w0 U S w){t:TypeId}{m m' key Cz:Value}{K:VK} (hk:WD P t m key S K=true) (hm:VR U m m') (Qo:VR U key Cz):
 ∃v S' v' w',K v S'=true/\VR U v v'/\Rel P w0 U S' w'/\sQ U w U w'/\(Instr.mapEntry t m' Cz).run P w= .ok v' w':=by
 unfold WD at hk;split at hk
 ·rename_i kt et hmt
  have hu:=vX hmt;split at hk
  ·rename_i zero tF hz
   rw [Qo.key tF];rcases CU hk with ⟨rfl,tC⟩ | ⟨r,es,c,rfl,ho,tC⟩
   ·cases tC
   ·obtain⟨L,hL,rfl⟩:=hm.CE
    obtain⟨iD,tH,hb,NS⟩:=h.map ho hL;have hk:=tC;simp only at hk;obtain⟨q,q',hk,dD,hr⟩:=FE tF hk NS;rcases hr with ⟨rfl,rfl⟩ | ⟨j,e,e',rfl,h1,h2,rfl⟩
    ·simp only at hk
     split at hk
     ·rename_i hfz
      simp only [kL,aY,fZ]at hk
      obtain⟨w',hw,r1,r2⟩:=h.QP (P:=P) ho hL hb tH (es2:=es++[{key:=key,val:=zero,born:=c}]) (Da:=iD.push {key:=key,val:=zero,born:=c}) (c2:=c+1)
       (by rw [Array.toList_push];exact NS.push ⟨rfl,(vP tF).1,rfl,VR.iZ hfz⟩) ⟨_,_,rfl⟩
      exact⟨_,_,_,w',hk,.qD (.cons (VR.iZ hfz) (.cons (.flat rfl) (.nil U))),r1,r2,by simp [Instr.mapEntry,run_underlying hu,MapKept.run_getObj_map hb,gX tF,dD,WH hz,hw];rfl⟩
     ·cases hk
    ·dsimp only at hk
     split at hk
     ·rename_i hsb
      have hrel:=NS.2 j e e' h1 h2;have hee:e.key=key:=LN hrel.2.1 (vP tF).1 hsb
      obtain⟨w',hw,r1,r2⟩:=h.QP (P:=P) ho hL hb tH (es2:=es) (Da:=iD.modify j fun e=>{e with key:=key}) (c2:=c)
       (by rw [Xe];exact NS.aNO h1 h2 _ ⟨hee.symm,hrel.2.1,hrel.2.2.1,hrel.2.2.2⟩) ⟨_,_,rfl⟩
      have QQ:S.set r (.map es c)=S.set r (.map es c):=rfl;refine⟨_,S,_,w',hk,.qD (.cons hrel.2.2.2 (.cons (.flat rfl) (.nil U))),?_,r2,?_⟩
      ·exact r1.same (fun j=>by
        rw [zQ];split
        ·rename_i e;subst e;exact ho.symm
        ·rfl) rfl
      ·have h2':iD[j]? =some e':=by simpa using h2
       have:Instr.sameBits 10000 e'.key key=true:=by rw [hrel.1];exact hsb
       simp [Instr.mapEntry,run_underlying hu,MapKept.run_getObj_map hb,gX tF,dD,h2',Ip this,hw,goInt,hrel.2.2.1]
     ·cases hk
  ·cases hk
 ·cases hk
end
section
variable{P:Program}{w0:World}{U:Rn}{S:St}{w:World}
def FF (n:Nat) (k:Nat->MapEntry->Bool) (es:List MapEntry):Nat->Bool:=
 fE (β:=Nat->Bool) (fun _=>false) (fun e _ ih i=>match Nat.beq e.born n with | true=>k i e | false=>cG (Nat.succ i) ih) es
theorem PE{n:Nat}{k:Nat->MapEntry->Bool}:∀(l l':List MapEntry) (i:Nat),FF n k l i=true->fN U l l'->
 ∃j e e',k (i+j) e=true/\l[j]? =some e/\l'[j]? =some e'/\l'.findIdx? (fun e=>(e.born:Int)==(n:Int))=some j:=by
 intro l;induction l with
 | nil=>intro l' i hk _;cases hk
 | cons e l ih=>
  intro l' i hk hl;obtain⟨e',t',rfl,he,ht⟩:=hl.cons_inv;have hk:(match(generalizing:=false) Nat.beq e.born n with | true=>k i e | false=>cG (Nat.succ i) (FF n k l))=true:=hk;split at hk
  ·rename_i hb
   have hb:=cV hb;exact⟨0,e,e',hk,rfl,rfl,by simp [List.findIdx?_cons,he.2.2.1,hb]⟩
  ·rename_i hb
   have hb:=KT hb;rw [aY]at hk;obtain⟨j,x,x',h1,h2,h3,h4⟩:=ih t' (i+1) hk ht;refine⟨j+1,x,x',by rw [<-h1];congr 1;omega,by simpa using h2,by simpa using h3,?_⟩;have:((e'.born:Int)==(n:Int))=false:=by rw [he.2.2.1,beq_eq_false_iff_ne];omega
   simp [List.findIdx?_cons,this,h4]
theorem SJ (h:Rel P w0 U S w){t:TypeId}{m m' s s' x x':Value}{k:St->Bool} (hk:LG m s x S k=true) (hm:VR U m m') (hs:VR U s s') (hx:VR U x x'):
 ∃S' w',k S'=true/\Rel P w0 U S' w'/\sQ U w U w'/\(Instr.entryStore t m' s' x').run P w= .ok () w':=by
 unfold LG at hk;split at hk
 ·rename_i kd n
  cases hs.of_flat rfl;rcases CU hk with ⟨rfl,tC⟩ | ⟨r,es,c,rfl,ho,tC⟩
  ·cases tC
  ·obtain⟨L,hL,rfl⟩:=hm.CE
   obtain⟨iD,tH,hb,NS⟩:=h.map ho hL;have hk:=tC;simp only at hk;obtain⟨j,e,e',hk,h1,h2,h3⟩:=PE es iD.toList 0 hk NS;rw [Db,fZ,fK]at hk;have hrel:=NS.2 j e e' h1 h2
   obtain⟨w',hw,r1,r2⟩:=h.QP (P:=P) ho hL hb tH (es2:=es.set j {e with val:=x}) (Da:=iD.modify j fun e=>{e with val:=x'}) (c2:=c)
    (by rw [Xe];exact NS.Xl h1 h2 _ ⟨hrel.1,hrel.2.1,hrel.2.2.1,hx⟩) ⟨_,_,rfl⟩
   refine⟨_,w',hk,r1,r2,?_⟩;have h3':iD.findIdx? (fun e=>(e.born:Int)==(n:Int))=some j:=by rw [<-h3,<-List.findIdx?_toArray,Xd]
   have hai:(asInt (.int kd (Int.ofNat n))).run P w= .ok (n:Int) w:=by simp [asInt,asIntOf]
   simp only [Instr.entryStore,bY,MapKept.run_getObj_map hb,dK,hai,h3',hw]
 ·cases hk
theorem Hi (h:Rel P w0 U S w){ts:Array TypeId}{t:TypeId}{m m' key Cz:Value}{k:St->Bool} (hk:Lf P ts.toList m key S k=true) (hm:VR U m m') (Qo:VR U key Cz):
 ∃S' w',k S'=true/\Rel P w0 U S' w'/\sQ U w U w'/\(Builtin.delete_ ts t #[m',Cz]).run P w= .ok (.tuple #[]) w':=by
 unfold Lf at hk;split at hk
 ·rename_i t0 ts' Dc
  have h0:ts[0]? =some t0:=by have:=kA (·[0]?) Dc;simpa using this
  split at hk
  ·rename_i kt et hmt
   have hu:=vX hmt;split at hk
   ·rename_i tF
    rw [Qo.key tF];rcases CU hk with ⟨rfl,tC⟩ | ⟨r,es,c,rfl,ho,tC⟩
    ·cases hm.of_flat rfl
     exact⟨S,w,tC,h,.refl U w,by simp [Builtin.delete_,h0,run_underlying hu,gX tF]⟩
    ·obtain⟨L,hL,rfl⟩:=hm.CE
     obtain⟨iD,tH,hb,NS⟩:=h.map ho hL;have hk:=tC;simp only at hk;obtain⟨q,q',hk,dD,hr⟩:=FE tF hk NS;rcases hr with ⟨rfl,rfl⟩ | ⟨j,e,e',rfl,h1,h2,rfl⟩
     ·simp only at hk
      obtain⟨w',hw,r1,r2⟩:=h.QP (P:=P) ho hL hb tH (es2:=es) (Da:=iD) (c2:=c) NS ⟨_,_,rfl⟩;refine⟨S,w',hk,?_,r2,by simp [Builtin.delete_,h0,run_underlying hu,MapKept.run_getObj_map hb,gX tF,dD,hw]⟩
      exact r1.same (fun j=>by
       rw [zQ];split
       ·rename_i e;subst e;exact ho.symm
       ·rfl) rfl
     ·simp only [fK,aB2,fZ]at hk
      obtain⟨w',hw,r1,r2⟩:=h.QP (P:=P) ho hL hb tH (es2:=es.eraseIdx j) (Da:=iD.eraseIdxIfInBounds j) (c2:=c)
       (by
        have:(iD.eraseIdxIfInBounds j).toList=iD.toList.eraseIdx j:=by
         have hlt:j<iD.size:=by have:=(cZ.1 h2).1;simpa using this
         simp [Array.eraseIdxIfInBounds,hlt]
        rw [this];exact NS.erase j) ⟨_,_,rfl⟩
      exact⟨_,w',hk,r1,r2,by simp [Builtin.delete_,h0,run_underlying hu,MapKept.run_getObj_map hb,gX tF,dD,hw]⟩
   ·cases hk
  ·cases hk
 ·cases hk
theorem LO (h:Rel P w0 U S w){t:TypeId}{K:VK} (hk:sP S (.map [] 0) (fun i S=>K (.map (some i)) S)=true):
 ∃U' v S' v' w',K v S'=true/\(Instr.makeMap t none).run P w= .ok v' w'/\VR U' v v'/\Rel P w0 U' S' w'/\sQ U w U' w':=by
 rw [gG]at hk;obtain⟨r1,r2⟩:=h.new (.map [] 0) (.map #[] 0) ⟨w.heap.size,0,0,0⟩ rfl (fun U' _ hU=>⟨_,#[],hU,h.base.size,by show(w.heap.push _)[w.heap.size]? =_;simp,rfl,by simp⟩) (by simp [gV.olds]);exact⟨_,_,_,_,_,hk,by simp [Instr.makeMap,newObj];rfl,.map (Rn.jN U S.n _),r1,r2⟩
theorem Dd (h:Rel P w0 U S w){t:TypeId}{r r':Value}{K:VK} (hr:VR U r r')
 (hk:(match(generalizing:=false) r,BG P t with | .int _ _,some _=>sP S (.map [] 0) (fun i S=>K (.map (some i)) S) | _,_=>false)=true):
 ∃U' v S' v' w',K v S'=true/\(Instr.makeMap t (some r')).run P w= .ok v' w'/\VR U' v v'/\Rel P w0 U' S' w'/\sQ U w U' w':=by
 split at hk
 ·rename_i hm
  have hu:=vX hm;cases hr.of_flat rfl;obtain⟨U',v,S',v',w',h1,h2,h3⟩:=LO (t:=t) h hk;refine⟨U',v,S',v',w',h1,?_,h3⟩;simp [Instr.makeMap,run_underlying hu,asInt,asIntOf]at h2 ⊢;exact h2
 ·cases hk
theorem aGW (n:Nat) (l:List Nat):aGT n l=l.contains n:=by
 induction l with
 | nil=>rfl
 | cons m l ih=>
  show dF (Nat.beq m n) true (aGT n l)=_;rw [ih,List.contains_cons];cases hb:Nat.beq m n with
  | true=>have:=cV hb;subst this;simp [dF]
  | false=>have:=KT hb;have h2:(n==m)=false:=by simpa using dV this
           rw [h2];rfl
theorem Qp (seen:List Nat) (k:List MapEntry->Bool) (es:List MapEntry):Qg seen es k=k (es.filter fun e=> !seen.contains e.born):=by
 induction es generalizing k with
 | nil=>rfl
 | cons e es ih=>
  show dF (aGT e.born seen) (Qg seen es k) (Qg seen es fun t=>k (e::t))=_;rw [aGW,ih,ih,VT];cases hb:seen.contains e.born<;>rfl
theorem fN.aMb{l l':List MapEntry} (h:fN U l l'){e':MapEntry} (he:e'∈l'):∃e,e∈l/\LJ U e e':=by
 obtain⟨k,hk,rfl⟩:=KU he;have hl:k<l.length:=by rw [h.1];exact hk
 exact⟨l[k],sW hl,h.2 k _ _ (aS hl) (aS hk)⟩
theorem fN.mem{l l':List MapEntry} (h:fN U l l'){e:MapEntry} (he:e∈l):∃e',e'∈l'/\LJ U e e':=by
 obtain⟨k,hk,rfl⟩:=KU he;have hl:k<l'.length:=by rw [<-h.1];exact hk
 exact⟨l'[k],sW hl,h.2 k _ _ (aS hk) (aS hl)⟩
theorem Hj (h:Rel P w0 U S w){t:TypeId}{x x':Value}{K:VK} (hk:SA P t x S K=true) (hx:VR U x x'):
 ∃U' v S' v' w',K v S'=true/\(Instr.range t x').run P w= .ok v' w'/\VR U' v v'/\Rel P w0 U' S' w'/\sQ U w U' w':=by
 unfold SA at hk;split at hk
 ·rename_i kt et hm
  have hu:=vX hm;split at hk
  ·cases hx.of_flat rfl
   rw [gG]at hk;obtain⟨r1,r2⟩:=h.new (.iter none 0 [] 0) (.mapIter none 0 #[] 0) ⟨w.heap.size,0,0,0⟩ rfl (fun U' _ hU=>⟨_,0,#[],0,⟨hU,rfl⟩,h.base.size,by show(w.heap.push _)[w.heap.size]? =_;simp⟩) (by simp [gV.olds]);exact⟨_,_,_,_,_,hk,run_range_nilMap w t _ _ hu,.ptr (Rn.jN U S.n _),r1,r2⟩
  ·rename_i r
   obtain⟨L,hL,rfl⟩:=hx.CE;rw [lB]at hk;cases ho:S.h.get r with
   | none=>rw [ho]at hk;cases hk
   | some o=>
    rw [ho]at hk;cases o with
    | map es c=>
     obtain⟨iD,tH,hb,NS⟩:=h.map ho hL;have hk:sP S (.iter (some r) c [] c) (fun i S=>K (.pointer (some ⟨i,0,none⟩)) S)=true:=hk;rw [gG]at hk
     obtain⟨r1,r2⟩:=h.new (.iter (some r) c [] c) (.mapIter (some L.b) c #[] c) ⟨w.heap.size,0,0,0⟩ rfl
      (fun U' he hU=>⟨_,L,⟨hU,rfl⟩,h.base.size,he _ _ hL,by show(w.heap.push _)[w.heap.size]? =_;simp⟩) (by simp [gV.olds])
     exact⟨_,_,_,_,_,hk,run_range_map w t _ _ L.b iD c hu hb,.ptr (Rn.jN U S.n _),r1,r2⟩
    | _=>cases hk
  ·cases hk
 ·cases hk
theorem Qq (h:Rel P w0 U S w){ty:TypeId}{x x':Value}{K:VK} (hk:aAT x S K=true) (hx:VR U x x'):
 ∃v S' v' w',K v S'=true/\(Instr.next x' false ty).run P w= .ok v' w'/\VR U v v'/\Rel P w0 U S' w'/\sQ U w U w':=by
 unfold aAT at hk;split at hk
 ·rename_i i
  obtain⟨_,L,hL,rfl⟩:=hx.CB;rw [lB]at hk;cases ho:S.h.get i with
  | none=>rw [ho]at hk;cases hk
  | some o=>
   rw [ho]at hk;cases o with
   | iter m since seen last=>
    cases m with
    | none=>
     have hk:K (.tuple ⟨[.bool false]⟩) S=true:=hk;obtain⟨L',a,b,c,⟨h1,hs⟩,h2,h3⟩:=h.DK i _ ho;rw [hL]at h1;injection h1 with h1;subst h1;refine⟨_,S,_,w,hk,?_,.qD (.cons (.flat rfl) (.nil U)),h,.refl U w⟩;rw [hs];simp only [Instr.next,getObj,bY,Sem.run,h3,Result.andThen];rfl
    | some r=>
     obtain⟨L',M,⟨h1,hs⟩,h2,h3,h4⟩:=h.DK i _ ho;rw [hL]at h1;injection h1 with h1;subst h1;rw [hs]
     have hk:nV S.h r (fun o=>match o with
      | .map es c=>match pW (fun e=>Nat.blt e.born since) es,Nat.ble since last with
       | true,true=>Qg seen es fun l=>match l with
        | []=>K (.tuple ⟨[.bool false]⟩) S
        | e::t=>pW (fun e=>wQ seen [e.born] fun seen=>pX S i (.iter (some r) since seen c) fun S=>K (.tuple ⟨[.bool true,e.key,e.val]⟩) S) (e::t)
       | _,_=>false
      | _=>false)=true:=hk
     rw [lB]at hk;cases uK:S.h.get r with
     | none=>rw [uK]at hk;cases hk
     | some o2=>
      rw [uK]at hk;cases o2 with
      | map es c=>
       obtain⟨iD,tH,hb,NS⟩:=h.map uK h3;dsimp only at hk;split at hk
       ·rename_i hold hsc
        rw [jJ]at hold;have hsc:=bE hsc
        have aMc:∀x∈iD.toList,x.born<since:=by
         intro x hx;obtain⟨e,he,hr⟩:=NS.aMb hx;have:=dL.1 hold e he;rw [hr.2.2.1];exact bE this
        rw [Qp]at hk
        have aAY:∀e'∈(leftOf iD ⟨seen⟩).toList,∃e,e∈es.filter (fun e=> !seen.contains e.born)/\LJ U e e':=by
         intro e' Wi;unfold leftOf at Wi;rw [Array.toList_filter]at Wi;obtain⟨h5,h6⟩:=dU.1 Wi;obtain⟨e,he,hr⟩:=NS.aMb h5;refine⟨e,dU.2 ⟨he,?_⟩,hr⟩;rw [hr.2.2.1]at h6;simpa using h6
        rcases run_next_at (P:=P) w ty L.b M.b since last ⟨seen⟩ iD c h4 hb aMc hsc with ⟨h0,dD⟩ | ⟨e',Wi,w1,hw1,dD⟩
        ·have ON:es.filter (fun e=> !seen.contains e.born)=[]:=by
          cases hf:es.filter (fun e=> !seen.contains e.born)with
          | nil=>rfl
          | cons e t=>
           exfalso;have hm:e∈es.filter (fun e=> !seen.contains e.born):=by rw [hf];exact .head _
           obtain⟨h5,h6⟩:=dU.1 hm;obtain⟨e',Wi,hr⟩:=NS.mem h5
           have:e'∈(leftOf iD ⟨seen⟩).toList:=by
            unfold leftOf;rw [Array.toList_filter];refine dU.2 ⟨Wi,?_⟩;rw [hr.2.2.1];simpa using h6
           have hz:(leftOf iD ⟨seen⟩).toList=[]:=lZ (by simpa using h0);rw [hz]at this;cases this
         rw [ON]at hk;exact⟨_,S,_,w,hk,dD,.qD (.cons (.flat rfl) (.nil U)),h,.refl U w⟩
        ·obtain⟨e,he,hr⟩:=aAY e' Wi
         have wK:(es.filter (fun e=> !seen.contains e.born)).all (fun e=>wQ seen [e.born] fun seen=>pX S i (.iter (some r) since seen c) fun S=>K (.tuple ⟨[.bool true,e.key,e.val]⟩) S)=true:=by
          cases hf:es.filter (fun e=> !seen.contains e.born)with
          | nil=>rfl
          | cons x t=>rw [hf]at hk;simp only [jJ]at hk;exact hk
         have hk:=dL.1 wK e he;rw [kL,fZ]at hk
         have aMd:Rel P w0 U S w1/\sQ U w U w1/\w1.heap=w.heap:=by
          rcases hw1 with rfl | rfl
          ·exact⟨h,.refl _ _,rfl⟩
          ·exact⟨h.drew,.drew _ _,rfl⟩
         obtain⟨Iq,De,hh1⟩:=aMd
         obtain⟨r1,r2⟩:=Iq.aGV (o':= .iter (some r) since (seen++[e.born]) c) ho rfl rfl rfl hL h2 rfl (.mapIter (some M.b) since ((⟨seen⟩:Array Nat).push e'.born) c)
          (fun Ct=>⟨L,M,⟨hL,hs⟩,h2,h3,by rw [Ct,hr.2.2.1];simp⟩)
         exact⟨_,_,_,_,hk,dD,.qD (.cons (.flat rfl) (.cons (by rw [hr.1];exact .iZ hr.2.1) (.cons hr.2.2.2 (.nil U)))),r1,De.trans r2⟩
       ·cases hk
      | _=>cases hk
   | _=>cases hk
 ·cases hk
theorem Xm{l:List Nat}{k:Nat->Bool} (hk:Qh l k=true):∃b,l.getLast?=some b/\k b=true:=by
 induction l with
 | nil=>cases hk
 | cons n t ih=>
  cases t with
  | nil=>exact⟨n,rfl,hk⟩
  | cons m t=>
   obtain⟨b,h1,h2⟩:=ih hk;exact⟨b,by rw [List.getLast?_cons_cons];exact h1,h2⟩
theorem Lp (h:Rel P w0 U S w){x x':Value}{K:VK} (hk:Lg x S K=true) (hx:VR U x x'):
 ∃v v',K v S=true/\VR U v v'/\(Instr.entry x').run P w= .ok v' w:=by
 unfold Lg at hk;split at hk
 ·rename_i i
  obtain⟨_,L,hL,rfl⟩:=hx.CB;rw [lB]at hk;cases ho:S.h.get i with
  | none=>rw [ho]at hk;cases hk
  | some o=>
   rw [ho]at hk;cases o with
   | iter m since seen last=>
    cases m with
    | none=>cases hk
    | some r=>
     obtain⟨L',M,⟨h1,hs⟩,h2,h3,h4⟩:=h.DK i _ ho;rw [hL]at h1;injection h1 with h1;subst h1;rw [hs]
     replace hk:nV S.h r (fun o=>match o with
      | .map es c=>match Nat.beq c last with
       | true=>Qh seen fun b=>Ik b es fun _ e=>K (.tuple ⟨[e.key,e.val]⟩) S
       | false=>false
      | _=>false)=true:=hk
     rw [lB]at hk;cases uK:S.h.get r with
     | none=>rw [uK]at hk;cases hk
     | some o2=>
      rw [uK]at hk;cases o2 with
      | map es c=>
       obtain⟨iD,tH,hb,NS⟩:=h.map uK h3;dsimp only at hk;split at hk
       ·rename_i ZX
        obtain rfl:=cV ZX;obtain⟨b,aAZ,hk⟩:=Xm hk;have hk:FF b (fun _ e=>K (.tuple ⟨[e.key,e.val]⟩) S) es 0=true:=hk;obtain⟨j,e,e',hk,he,Wi,hf⟩:=PE es iD.toList 0 hk NS;have hr:=NS.2 j e e' he Wi;refine⟨_,_,hk,.qD (.cons (.iZ hr.2.1) (.cons hr.2.2.2 (.nil U))),?_⟩;have aMe:(⟨seen⟩:Array Nat).back?=some b:=by simpa using aAZ
        have aDO:iD.find? (·.born==b)=some e':=by
         rw [<-Array.find?_toList]
         have Gy:iD.toList.findIdx? (fun e=>e.born==b)=some j:=by
          rw [<-hf];congr 1;funext x;rw [pL,beq_iff_eq,beq_iff_eq];omega
         obtain⟨hlt,hp,aNP⟩:=Kj.1 Gy;rw [List.find?_eq_some_iff_getElem]
         have hgj:iD.toList[j]=e':=by
          have:=aS hlt;rw [this]at Wi;injection Wi
         exact⟨by rw [<-hgj];exact hp,j,hlt,hgj,fun k hk=>by simpa using aNP k hk⟩
        simp only [Instr.entry,getObj,bY,Sem.run,h4,hb,Result.andThen,aMe,bne_self_eq_false,cJ,if_false,aDO];rw [hr.1];rfl
       ·cases hk
      | _=>cases hk
   | _=>cases hk
 ·cases hk
theorem LP{t as xT:TypeId}{v:Value}{d:TypeDesc}{ok:Bool} (hd:P.underlying as=some d) (hi:∀ms,d≠ .interface ms) (ht:t=as):
 (Instr.typeAssert (.iface t v) xT as ok).run P w= .ok (if ok then .tuple #[v,.bool true]else v) w:=by
 subst ht;simp only [Instr.typeAssert,bY,run_underlying hd,dK];cases d<;>first | exact absurd rfl (hi _) | (cases ok<;>simp)
end
section
variable{P:Program}{w0:World}{U:Rn}{S:St}{w:World}
theorem SK (h:Rel P w0 U S w){size n:Nat}{x x':Value}{k:List Value->Bool} (hk:DF S size n x k=true) (hx:VR U x x'):
 ∃cs cs',k cs=true/\kK U cs cs'/\cs'.length=n*size/\(Builtin.firstCells size n x').run P w= .ok ⟨cs'⟩ w/\(Builtin.firstCells size n x').run P w.drew= .ok ⟨cs'⟩ w.drew:=by
 unfold DF at hk;split at hk
 ·cases hx.of_flat rfl
  split at hk
  ·exact⟨_,[],hk,.nil U,by simp,rfl,rfl⟩
  ·cases hk
 ·rename_i i o sp len c
  split at hk
  ·rcases hx.iG with ⟨L,c',hL,rfl,_⟩ | ⟨⟨s1,h1⟩,rfl,rfl,a,c',rfl⟩
   ·exact⟨_,[],hk,.nil U,by simp,by simp [Builtin.firstCells,loadCells,loadCellsFrom],by simp [Builtin.firstCells,loadCells,loadCellsFrom]⟩
   ·exact⟨_,[],hk,.nil U,by simp,by simp [Builtin.firstCells,loadCells,loadCellsFrom],by simp [Builtin.firstCells,loadCells,loadCellsFrom]⟩
  ·rename_i n
   split at hk
   ·cases hk
   ·rename_i AA
    rcases hx.iG with ⟨L,c',hL,rfl,_⟩ | ⟨⟨s1,h1⟩,rfl,rfl,a,c',rfl⟩
    ·obtain⟨vs,e',ck,ho,hle,hk⟩:=rG hk
     obtain⟨l',Qk,hlen,hc⟩:=h.vW ho hL hle;exact⟨_,l',hk,Qk,hlen,run_loadCells (P:=P) _ l' hlen hc,run_loadCells (P:=P) (w:=w.drew) _ l' hlen hc⟩
    ·exact absurd h1 (AA s1)
 ·rename_i s
  cases hx.of_flat rfl;split at hk
  ·rw [AB]at hk
   split at hk
   ·rename_i hle
    rw [Ll]at hk
    have hd:((s.extract 0 n).data.map fun b=>Value.int .u8 (b.toNat:Int))=⟨(s.data.toList.take n).map fun b=>Value.int .u8 (b.toNat:Int)⟩:=by
     apply gW.1;simp
    refine⟨_,_,hk,.flat (by intro v hv;obtain⟨b,_,rfl⟩:=mA.1 hv;rfl),by simp at hle ⊢;omega,?_,?_⟩
    ·simp only [Builtin.firstCells,iY];rw [hd]
    ·simp only [Builtin.firstCells,iY];rw [hd]
   ·cases hk
  ·cases hk
 ·cases hk
theorem YF{x x':Value}{k:Nat->Bool} (hk:GS x k=true) (hx:VR U x x'):∃n,k n=true/\(∀w,(Builtin.lenOf x').run P w= .ok n w)/\∀size w,(Builtin.firstCells size 0 x').run P w= .ok #[] w:=by
 unfold GS at hk;split at hk
 ·rename_i n c
  have f0:∀(a:Addr) (n c size:Nat) (w:World),(Builtin.firstCells size 0 (.slice (some a) n c)).run P w= .ok #[] w:=fun a n c size w=>by simp [Builtin.firstCells,loadCells,loadCellsFrom]
  cases hx with
  | flat hf=>
   rename_i base;cases base with
   | none=>exact⟨n,hk,fun w=>rfl,fun _ w=>rfl⟩
   | some a=>simp [bA]at hf
  | slice _=>exact⟨n,hk,fun w=>rfl,fun _ w=>f0 _ _ _ _ w⟩
  | oG _ _ _ _ _=>exact⟨n,hk,fun w=>rfl,fun _ w=>f0 _ _ _ _ w⟩
  | wT=>exact⟨_,hk,fun w=>rfl,fun _ w=>f0 _ _ _ _ w⟩
  | wU _=>exact⟨_,hk,fun w=>rfl,fun _ w=>f0 _ _ _ _ w⟩
 ·rename_i s
  cases hx.of_flat rfl;rw [jT]at hk;exact⟨_,hk,fun w=>rfl,fun _ w=>by simp [Builtin.firstCells]⟩
 ·cases hk
theorem Ir{d:Option TypeDesc} (h:Cq d=true):(∃e,d=some (.slice e))\/d=some .string:=by
 unfold Cq at h;split at h
 ·exact .inl ⟨_,rfl⟩
 ·exact .inr rfl
 ·cases h
section
variable{ts:Array TypeId}{ty t tx e:TypeId}{i:TypeInfo}{z:Value}{base:Option Addr}{sLen sCap n:Nat}{x:Value}{news olds:List Value}{w1:World}
theorem CG (h0:ts[0]? =some t) (h1:ts[1]? =some tx) (ht:P.underlying t=some (.slice e)) (hx:Cq (P.underlying tx)=true) (hi:P.info? e=some i)
 (hlen:∀w,(Builtin.lenOf x).run P w= .ok n w) (sJ:sLen+n<=sCap) (hc:(Builtin.firstCells i.size n x).run P w= .ok ⟨news⟩ w)
 (Wj:∀a,base=some a->(storeCells (a.add (sLen*i.size)) news).run P w= .ok () w1) (CH:base=none->w1=w):
 (Builtin.append_ ts ty #[.slice base sLen sCap,x]).run P w= .ok (.slice base (sLen+n) sCap) w1:=by
 rcases Ir hx with ⟨e',hx⟩ | hx
 all_goals cases base with
  | none=>cases CH rfl;simp [Builtin.append_,h0,h1,run_underlying ht,run_underlying hx,sizeOf,typeInfo,hi,hlen,sJ,hc]
  | some a=>simp [Builtin.append_,h0,h1,run_underlying ht,run_underlying hx,sizeOf,typeInfo,hi,hlen,sJ,hc,Wj a rfl]
theorem CI (h0:ts[0]? =some t) (h1:ts[1]? =some tx) (ht:P.underlying t=some (.slice e)) (hx:Cq (P.underlying tx)=true) (hi:P.info? e=some i) (hz:i.zero=some z)
 (hlen:∀w,(Builtin.lenOf x).run P w= .ok n w) (sJ:sCap<sLen+n) (QR:((sLen+n)*i.bytes<=140737488355328/\(sLen+n)<=140737488355328)) (hold:(Builtin.firstCells i.size sLen (.slice base sLen sCap)).run P w.drew= .ok ⟨olds⟩ w.drew)
 (hc:(Builtin.firstCells i.size n x).run P w.drew= .ok ⟨news⟩ w.drew):
 (Builtin.append_ ts ty #[.slice base sLen sCap,x]).run P w= .ok (.slice (some ⟨w.heap.size,0,none⟩) (sLen+n) (grownCap w (sLen+n) sCap e))
  (w.drew.alloc (.cells ⟨(olds++news)++(List.replicate (grownCap w (sLen+n) sCap e-(sLen+n)) z.cells.toList).flatten⟩ e)):=by
 have hn:¬(sLen+n<=sCap):=by omega
 have hb:(sLen+n)*i.bytes<=140737488355328:=QR.1;have OO:sLen+n<=140737488355328:=QR.2;have aNQ:¬(9223372036854775807<((sLen:Int)+(n:Int))):=by omega
 have h48:=growslice_fits (bytes:=i.bytes) sJ (by omega);have aNR:¬(281474976710656<Builtin.nextslicecap (sLen+n) sCap*i.bytes):=by omega
 have hzz:∀m,Builtin.zeroCells z.cells m=⟨(List.replicate m z.cells.toList).flatten⟩:=by
  intro m;by_cases uR:z.cells.toList=[]
  ·have:z.cells= #[]:=gW.1 uR
   apply gW.1;simp [Builtin.zeroCells,this]
  ·exact DJ z.cells.toList z.cells rfl m uR
 rcases Ir hx with ⟨e',hx⟩ | hx<;>
  simp [Builtin.append_,h0,h1,run_underlying ht,run_underlying hx,sizeOf,typeInfo,zeroValue,hi,hz,hlen,hn,aNQ,aNR,Question.forced,hc,hold,newRow,grownCap,hzz]
end
end
section
variable{P:Program}{w0:World}{U:Rn}{S:St}{w:World}
theorem Rel.qV (h:Rel P w0 U S w){b:Nat}{vs:List Value}{e:TypeId}{olds:List Nat} (ho:S.obj b=some (.cells vs e (.grown olds))):Rel P w0 U (S.set b (.cells vs e .qV)) w:=by
 have wX:∀j x,(S.set b (.cells vs e .qV)).obj j=some x->(j=b/\x= .cells vs e .qV)\/(j≠b/\S.obj j=some x):=fun j x hx=>by
  rw [zQ]at hx;by_cases e:j=b
  ·rw [if_pos e]at hx;injection hx with hx;exact .inl ⟨e,hx.symm⟩
  ·rw [if_neg e]at hx;exact .inr ⟨e,hx⟩
 have hsh:∀(j:Nat) (y:gV),y.vO=false->S.obj j=some y->aDP b j (.cells vs e (.grown olds)) y->y.reads=true:=by
  intro j y hd hy hs;rcases hs with ⟨h1,_⟩ | h1 | h1
  ·cases h1
  ·obtain⟨_,h2⟩:=h.old b vs e olds ho j h1
   rcases h2 y hy with h3 | ⟨ws,t',h3,_⟩
   ·rw [h3]at hd;cases hd
   ·rw [h3];rfl
  ·cases y with
   | cells us t k=>
    cases k with
    | grown l=>
     obtain⟨_,h2⟩:=h.old j us t l hy b h1;rcases h2 _ ho with h3 | ⟨ws,t',h3,_⟩
     ·cases h3
     ·injection h3 with _ _ h3;cases h3
    | _=>cases h1
   | _=>cases h1
 refine⟨h.ZZ,fun j x hx=>?_,h.Pt,fun j x hx=>?_,h.loc,fun i j x y L M KE hx hy hdx hdy hL hM hb=>?_,fun j us t l hj i hi=>?_,h.base⟩
 ·rcases wX j x hx with ⟨rfl,rfl⟩ | ⟨_,hx⟩
  ·obtain⟨L,cs,t,fz,h1,h2,h3,h4⟩:=h.DK _ _ ho
   exact⟨L,cs,t,fz,h1,h2,h3,h4.1,h4.2.2.2⟩
  ·exact h.DK j x hx
 ·rcases wX j x hx with ⟨rfl,_⟩ | ⟨_,hx⟩
  ·exact h.lt _ _ ho
  ·exact h.lt j x hx
 ·rcases wX i x hx with ⟨e1,e2⟩ | ⟨e1,QO⟩<;>rcases wX j y hy with ⟨f1,f2⟩ | ⟨f1,hy1⟩
  ·exact absurd (e1.trans f1.symm) KE
  ·subst e1 e2
   exact .inl ⟨rfl,hsh j y hdy hy1 (h.sep i j _ y L M KE ho hy1 rfl hdy hL hM hb)⟩
  ·subst f1 f2
   have:=h.sep j i _ x M L (dV KE) ho QO rfl hdx hM hL hb.symm;exact .inl ⟨hsh i x hdx QO this,rfl⟩
  ·exact h.sep i j x y L M KE QO hy1 hdx hdy hL hM hb
 ·rcases wX j _ hj with ⟨_,e2⟩ | ⟨e1,hj⟩
  ·injection e2 with _ _ e2;cases e2
  ·obtain⟨h1,h2⟩:=h.old j us t l hj i hi
   refine⟨h1,fun x hx=>?_⟩;rcases wX i x hx with ⟨rfl,rfl⟩ | ⟨_,hx⟩
   ·rcases h2 _ ho with h3 | ⟨ws,t',h3,_⟩
    ·cases h3
    ·injection h3 with _ _ h3;cases h3
   ·exact h2 x hx
theorem Rel.aMf (h:Rel P w0 U S w){b:Nat}{L:Loc} (hL:U b=some L){vs:List Value}{e:TypeId} (ho:S.obj b=some (.cells vs e .qV)){olds:List Nat}
 (holds:∀i∈olds,i<S.n/\∀x,S.obj i=some x->Qr U b vs i x)
 (Lq:∀j x M,S.obj j=some x->x.vO=false->U j=some M->M.b=L.b->j=b\/j∈olds)
 {cs cs':Array Value} {t:TypeId} {fz:Nat×Nat} (hb:w.heap[L.b]? =some (.cells cs t fz)) (hsz:cs'.size=cs.size) (aDQ:∀j,j<L.s+vs.length->cs'[j]? =cs[j]?)
 {e2:TypeId} {s2:Nat} {new:List Value} (hlen:L.s+vs.length<=s2+new.length) (Ct:∀(j:Nat) (v:Value),new[j]? =some v->∃v',cs'[s2+j]? =some v'/\VR U v v')
 (hfz:WI cs.size fz) (hLe:L.e=cs.size) (hm:bP P e2=some L.m) (he2:e=e2) (tH:w0.heap.size<=L.b):
 Rel P w0 (U.put S.n ⟨L.b,s2,L.e,L.m⟩) (S.new (.cells new e2 (.grown (b::olds)))) (w.putObj L.b (.cells cs' t fz))/\sQ U w (U.put S.n ⟨L.b,s2,L.e,L.m⟩) (w.putObj L.b (.cells cs' t fz)):=by
 have FG:=h.Pt S.n (bN _);have he:Ext U (U.put S.n ⟨L.b,s2,L.e,L.m⟩):=Rn.FH FG;have Ab:=lH (w:=w) (x:= .cells cs' t fz) hb
 have oT:∀j M,U.put S.n ⟨L.b,s2,L.e,L.m⟩ j=some M->(j=S.n/\M=⟨L.b,s2,L.e,L.m⟩)\/(j≠S.n/\U j=some M):=fun j M hj=>by
  unfold Rn.put at hj;by_cases e:j=S.n
  ·rw [if_pos e]at hj;injection hj with hj;exact .inl ⟨e,hj.symm⟩
  ·rw [if_neg e]at hj;exact .inr ⟨e,hj⟩
 have oL:∀j x,(S.new (.cells new e2 (.grown (b::olds)))).obj j=some x->(j=S.n/\x= .cells new e2 (.grown (b::olds)))\/(j≠S.n/\S.obj j=some x):=fun j x hx=>by
  rw [IQ]at hx;by_cases e:j=S.n
  ·rw [if_pos e]at hx;injection hx with hx;exact .inl ⟨e,hx.symm⟩
  ·rw [if_neg e]at hx;exact .inr ⟨e,hx⟩
 have aJC:=h.lt b _ ho
 have hte:t=e2:=by
  obtain⟨L',cs0,t0,fz0,k1,k2,_,k4⟩:=h.DK b _ ho;rw [hL]at k1;injection k1 with k1;subst k1;rw [hb]at k2;injection k2 with k2;injection k2 with _ k2 _;rw [k2,<-he2];exact k4.2.2
 refine⟨⟨fun g hg=>let⟨M,h1,h2⟩:=h.ZZ g hg;⟨M,he _ _ h1,h2⟩,fun j x hx=>?_,fun j hj=>?_,fun j x hx=>?_,fun j M hj=>?_,fun i j x y M N KE hx hy hdx hdy hM hN ZY=>?_,fun j us t' l hj i hi=>?_,?_⟩,he,⟨by rw [putObj_size];omega,fun c _ hc=>gH (dV (hc b L hL))⟩,fun j M hj=>?_⟩
 ·rcases oL j x hx with ⟨rfl,rfl⟩ | ⟨e1,QO⟩
  ·refine⟨_,cs',t,fz,Rn.jN _ _ _,Ab,fun j v hj=>?_,tH,by rw [hsz];exact hfz,by rw [hsz];exact hLe,hm,hte⟩
   obtain⟨v',h1,h2⟩:=Ct j v hj;exact⟨v',h1,h2.mono he⟩
  ·cases hd:x.vO with
   | true=>cases x<;>first | trivial | cases hd
   | false=>
    obtain⟨M,hM⟩:=(h.DK j x QO).loc hd;by_cases hMb:M.b=L.b
    ·
      have Qs:∃ws e',x= .cells ws e' .qV/\M.s+ws.length<=L.s+vs.length:=by
       rcases Lq j x M QO hd hM hMb with e2 | JT
       ·subst e2
        rw [ho]at QO;injection QO with QO;rw [hL]at hM;injection hM with hM;subst hM;exact⟨vs,e,QO.symm,bN _⟩
       ·rcases(holds j JT).2 x QO with h3 | ⟨ws,e',h3,h4⟩
        ·rw [h3]at hd;cases hd
        ·exact⟨ws,e',h3,h4 L M hL hM hMb⟩
      obtain⟨ws,e',rfl,hle⟩:=Qs;obtain⟨M',cs0,t0,fz0,h1,h2,h3,h4⟩:=h.DK j _ QO;rw [hM]at h1;injection h1 with h1;subst h1;rw [hMb,hb]at h2;injection h2 with h2;injection h2 with h2 h2a h2b;subst h2 h2a h2b;refine⟨M,cs',t,fz,he _ _ hM,by rw [hMb];exact Ab,fun q v hq=>?_,h4⟩;obtain⟨v',g1,g2⟩:=h3 q v hq;have hql:q<ws.length:=(cZ.1 hq).1;exact⟨v',(aDQ _ (by omega)).trans g1,g2.mono he⟩
    ·exact(h.DK j x QO).frame he fun M' YG=>by rw [hM]at YG;injection YG with YG;subst YG;exact gH hMb
 ·have YH:S.n+1<=j:=hj
  unfold Rn.put;rw [if_neg (by omega)];exact h.Pt j (by omega)
 ·rcases oL j x hx with ⟨e1,_⟩ | ⟨_,QO⟩
  ·subst e1;exact vI _
  ·exact nT (h.lt j x QO)
 ·rw [putObj_size]
  rcases oT j M hj with ⟨_,rfl⟩ | ⟨_,hM⟩
  ·exact h.loc b L hL
  ·exact h.loc j M hM
 ·rcases oL i x hx with ⟨e1,e2⟩ | ⟨e1,QO⟩<;>rcases oL j y hy with ⟨f1,f2⟩ | ⟨f1,hy1⟩
  ·exact absurd (e1.trans f1.symm) KE
  ·rcases oT i M hM with ⟨_,rfl⟩ | ⟨e3,_⟩
   ·rcases oT j N hN with ⟨f3,_⟩ | ⟨_,hN1⟩
    ·exact absurd f3 f1
    ·rw [e2]
     rcases Lq j y N hy1 hdy hN1 ZY.symm with h5 | h5
     ·exact .inr (.inl (by rw [h5];exact .head _))
     ·exact .inr (.inl (.tail _ h5))
   ·exact absurd e1 e3
  ·rcases oT j N hN with ⟨_,rfl⟩ | ⟨f3,_⟩
   ·rcases oT i M hM with ⟨e3,_⟩ | ⟨_,hM1⟩
    ·exact absurd e3 e1
    ·rw [f2]
     rcases Lq i x M QO hdx hM1 ZY with h5 | h5
     ·exact .inr (.inr (by rw [h5];exact .head _))
     ·exact .inr (.inr (.tail _ h5))
   ·exact absurd f1 f3
  ·rcases oT i M hM with ⟨e3,_⟩ | ⟨_,hM1⟩
   ·exact absurd e3 e1
   ·rcases oT j N hN with ⟨f3,_⟩ | ⟨_,hN1⟩
    ·exact absurd f3 f1
    ·exact h.sep i j x y M N KE QO hy1 hdx hdy hM1 hN1 ZY
 ·rcases oL j _ hj with ⟨e1,e2⟩ | ⟨e1,hj1⟩
  ·injection e2 with e2 e3 e4
   injection e4 with e4;subst e1 e2 e4
   have hib:i<S.n/\∀x,S.obj i=some x->Qr U b vs i x:=by
    rcases cO.1 hi with h5 | h5
    ·subst h5
     refine⟨aJC,fun x hx=> .inr ⟨vs,e,?_,?_⟩⟩
     ·rw [ho]at hx;injection hx with hx;exact hx.symm
     ·intro L1 M1 g1 g2 _;rw [g1]at g2;injection g2 with g2;subst g2;exact bN _
    ·exact holds i h5
   refine⟨nT hib.1,fun x hx=>?_⟩;rcases oL i x hx with ⟨e5,_⟩ | ⟨e5,QO⟩
   ·exact absurd e5 (by have:=hib.1;omega)
   ·rcases hib.2 x QO with h6 | ⟨ws,e',h6,h7⟩
    ·exact .inl h6
    ·refine .inr ⟨ws,e',h6,fun L1 M1 g1 g2 gb=>?_⟩
     rcases oT _ _ g1 with ⟨_,rfl⟩ | ⟨g3,_⟩
     ·rcases oT _ _ g2 with ⟨g4,_⟩ | ⟨_,g4⟩
      ·exact absurd g4 e5
      ·have:=h7 L M1 hL g4 gb
       simp only;omega
     ·exact absurd rfl g3
  ·obtain⟨h1,h2⟩:=h.old j us t' l hj1 i hi
   refine⟨nT h1,fun x hx=>?_⟩;rcases oL i x hx with ⟨e3,_⟩ | ⟨e3,QO⟩
   ·omega
   ·rcases h2 x QO with h3 | ⟨ws,e',h3,h4⟩
    ·exact .inl h3
    ·refine .inr ⟨ws,e',h3,fun L1 M1 g1 g2 gb=>?_⟩
     rcases oT _ _ g1 with ⟨g3,_⟩ | ⟨_,g3⟩
     ·exact absurd g3 e1
     ·rcases oT _ _ g2 with ⟨g5,_⟩ | ⟨_,g5⟩
      ·exact absurd g5 e3
      ·exact h4 L1 M1 g3 g5 gb
 ·exact⟨h.base.os,h.base.tape,h.base.output,by rw [putObj_size];exact h.base.size,fun k hk=>(gH (by omega)).trans (h.base.block k hk)⟩
 ·rcases oT j M hj with ⟨_,rfl⟩ | ⟨_,hM⟩
  ·exact .inr (.inr ⟨b,L,hL,rfl⟩)
  ·exact .inl hM
end
section
variable{P:Program}{w0:World}{U:Rn}{S:St}{w:World}
theorem YI{t e:TypeId} (h:isSlice P t=some e):P.underlying t=some (.slice e):=fS h
theorem LQ (n:Nat) (z:List Value){m:Nat} (h:z.length=m):(List.replicate n z).flatten.length=n*m:=by simp [h]
theorem Rel.fresh (h:Rel P w0 U S w){cs cs' zl:List Value} (vL:kK U cs cs'){qR size g:Nat}{elem:TypeId} (hl:cs'.length=qR*size) (hm:bP P elem=some size) (hz:zl.length=size) (QN:0<size) (hg:qR<=g){olds:List Nat}
 (hold:∀i∈olds,i<S.n/\∀x,S.obj i=some x->x= .dead\/∃ws e,x= .cells ws e .qV):
 ∃U',VR U' (.slice (some ⟨S.n,0,some 0⟩) qR qR) (.slice (some ⟨w.heap.size,0,none⟩) qR g)/\Rel P w0 U' (S.new (.cells cs elem (.grown olds))) (w.drew.alloc (.cells ⟨cs'++(List.replicate (g-qR) zl).flatten⟩ elem))/\
  sQ U w U' (w.drew.alloc (.cells ⟨cs'++(List.replicate (g-qR) zl).flatten⟩ elem)):=by
 obtain⟨r1,r2⟩:=h.drew.Qj (more:=(List.replicate (g-qR) zl).flatten) vL elem hm (0,0) (by intro x _;omega) olds hold;have hL:=Rn.jN U S.n ⟨w.drew.heap.size,0,(cs'++(List.replicate (g-qR) zl).flatten).length,size⟩;refine⟨_,?_,r1,(sQ.drew U w).trans r2⟩
 have hlen:(cs'++(List.replicate (g-qR) zl).flatten).length=g*size:=by
  rw [bW,hl,LQ _ _ hz,<-kJ]
  congr 1
  omega
 exact VR.oG (o:=0) (n:=qR) (c:=qR) (c':=g) hL hg (bN _) (by simp only [hlen];omega) QN
theorem Lr (h:Rel P w0 U S w){ts:Array TypeId}{ty t tx e:TypeId}{i:TypeInfo}{size:Nat} (h0:ts[0]? =some t) (h1:ts[1]? =some tx) (ht:P.underlying t=some (.slice e)) (WJ:Cq (P.underlying tx)=true) (hi:P.info? e=some i) (JU:i.size=size)
 {base:Option Addr} {sLen sCap n:Nat} {s' _x x':Value} {new new':List Value} {K:VK} (hs:VR U (.slice base sLen sCap) s') (hlen:∀w,(Builtin.lenOf x').run P w= .ok n w) (hn:kK U new new')
 (hc:(Builtin.firstCells size n x').run P w= .ok ⟨new'⟩ w) (KF:sLen+n<=sCap) (hk:LH size new base sLen sCap (sLen+n) S K=true):
 ∃U' v S' v' w',K v S'=true/\(Builtin.append_ ts ty #[s',x']).run P w= .ok v' w'/\VR U' v v'/\Rel P w0 U' S' w'/\sQ U w U' w':=by
 unfold LH at hk;split at hk
 ·rename_i b o sp
  split at hk
  ·rename_i AA DI
   rw [aY]at hk;rw [jJ]at DI;have DI:=GX hn (dL.1 DI);rcases hs.iG with ⟨L,c',hL,rfl,Lm⟩ | ⟨⟨_,aDR⟩,_⟩
   ·obtain⟨S',w',hk,r1,r2,dD⟩:=tU h hk hL hn DI
    refine⟨U,_,S',_,w',hk,CG h0 h1 ht WJ hi hlen (by rcases Lm with ⟨_,e⟩ | ⟨_,e,_⟩<;>omega) (by rw [JU];exact hc) (fun a ha=>?_) (fun e=>by cases e),?_,r1,r2⟩
    ·injection ha with ha
     rw [<-ha,lF,JU,sX];exact dD
    ·rcases Lm with ⟨rfl,rfl⟩ | ⟨rfl,e1,e2,e3,e4⟩
     ·exact .slice hL
     ·exact .oG hL e1 KF e3 e4
   ·rw [aDR]at AA;cases AA
  ·cases hk
 ·cases hk
theorem Hk (h:Rel P w0 U S w){ts:Array TypeId}{ty t tx e:TypeId}{i:TypeInfo}{z:Value}{size:Nat} (h0:ts[0]? =some t) (h1:ts[1]? =some tx) (ht:P.underlying t=some (.slice e)) (WJ:Cq (P.underlying tx)=true) (hi:P.info? e=some i) (JU:i.size=size) (hz:i.zero=some z) (WG:z.cells.size=size) (QN:0<size)
 {base:Option Addr} {sLen sCap n:Nat} {s' _x x':Value} {new new':List Value} {K:VK} (hs:VR U (.slice base sLen sCap) s') (hlen:∀w,(Builtin.lenOf x').run P w= .ok n w) (hn:kK U new new') (IC:new'.length=n*size)
 (hc:(Builtin.firstCells size n x').run P w= .ok ⟨new'⟩ w) (hcD:(Builtin.firstCells size n x').run P w.drew= .ok ⟨new'⟩ w.drew) (KF:¬sLen+n<=sCap) (QR:((sLen+n)*i.bytes<=140737488355328/\(sLen+n)<=140737488355328))
 (hk:SC P e size new base sLen (sLen+n) S K=true):
 ∃U' v S' v' w',K v S'=true/\(Builtin.append_ ts ty #[s',x']).run P w= .ok v' w'/\VR U' v v'/\Rel P w0 U' S' w'/\sQ U w U' w':=by
 have hm:bP P e=some size:=by unfold bP;rw [hi];simp [JU]
 have Ps:z.cells.toList.length=size:=by simpa using WG
 subst JU;unfold SC at hk;split at hk
 ·
   cases hs.of_flat rfl;split at hk
   ·simp only [JS,kL,gG,QA]at hk
    rw [fK]at hk KF QR;have dD:=CI (w:=w) (ty:=ty) (base:=none) (sLen:=0) (sCap:=sCap) (olds:=[]) h0 h1 ht WJ hi hz hlen (by omega) (by rw [fK];exact QR) rfl hcD;rw [fK,QA]at dD;obtain⟨U',r0,r1,r2⟩:=h.fresh hn IC hm Ps QN (grownCap_ge w n sCap e) (olds:=[]) (by simp);exact⟨U',_,_,_,_,hk,dD,r0,r1,r2⟩
   ·cases hk
 ·
   rename_i b o;rcases hs.iG with ⟨L,c',hL,rfl,⟨_,rfl⟩ | ⟨AA,_⟩⟩ | ⟨⟨_,AA⟩,_⟩
   ·obtain⟨vs,e',ck,ho,hle,hk⟩:=rG hk
    obtain⟨aDS,Qk,Cw,hcell⟩:=h.vW ho hL hle;simp only [JS,kL,gG]at hk;have dD:=CI (w:=w) (ty:=ty) (base:=some ⟨L.b,L.s+o,none⟩) (sLen:=sLen) (sCap:=c') (olds:=aDS) h0 h1 ht WJ hi hz hlen (by omega) QR (run_loadCells (w:=w.drew) _ aDS Cw hcell) hcD;obtain⟨U',r0,r1,r2⟩:=h.fresh (Qk.append hn) (by rw [bW,Cw,IC,<-kJ]) hm Ps QN (grownCap_ge w (sLen+n) c' e) (olds:=[]) (by simp);exact⟨U',_,_,_,_,hk,dD,r0,r1,r2⟩
   ·cases AA
   ·cases AA
 ·
   rename_i b o;rcases hs.iG with ⟨L,c',hL,rfl,⟨AA,_⟩ | ⟨_,hcc,Xn,Qt,hmp⟩⟩ | ⟨⟨_,AA⟩,_⟩
   ·cases AA
   ·obtain⟨vs,e',ck,ho,hk⟩:=tI hk
    rw [jT]at hk;split at hk
    ·rename_i olds q aNS hq
     have Ac:=cV aNS;split at hk
     ·rename_i hqs DI hel
      have hqs:=cV hqs;subst hqs;have hel:=cV hel;rw [jJ]at DI;have DI:=GX hn (dL.1 DI);obtain⟨vs2,e2,ck2,uK,hle,hk⟩:=rG hk;rw [ho]at uK;injection uK with uK;injection uK with q1 q2 q3;subst q1 q2;obtain⟨aDS,Qk,Cw,hcell⟩:=h.vW ho hL hle;simp only [JS,kL,gG,fZ]at hk;obtain⟨cs,t',fz,hb,hcv,tH,Is,hLe,hLm,_⟩:=h.cells ho hL;have hLm:L.m=i.size:=by rw [hq]at hLm;injection hLm with hLm;exact hLm.symm
      have Wj:=h.qV ho;have hob:(S.set b (.cells vs e' .qV)).obj b=some (.cells vs e' .qV):=by rw [zQ,if_pos rfl]
      have aJC:=h.lt b _ ho
      have holds:∀q∈olds,q<S.n/\∀y,(S.set b (.cells vs e' .qV)).obj q=some y->Qr U b vs q y:=by
       intro q hq;obtain⟨g1,g2⟩:=h.old b vs e' olds ho q hq;refine⟨g1,fun y hy=>?_⟩;rw [zQ]at hy;split at hy
       ·rename_i eq
        rcases g2 _ (eq▸ho)with g3 | ⟨ws,u,g3,_⟩
        ·cases g3
        ·injection g3 with _ _ g3;cases g3
       ·exact g2 y hy
      by_cases sJ:sLen+n<=c'
      ·
        have aMg:L.s+o+sLen*i.size+new'.length<=cs.size:=by
         rw [IC,sX,<-kJ,<-hLe];rw [hLm]at Qt;have:=oQ i.size sJ;omega
        have hsc:=gY (P:=P) new' w L.b (L.s+o+sLen*i.size) 0 cs t' fz hb (by simpa using aMg) (fun x QO hx2=>Is x (by simp at QO hx2;omega)) DI;simp only [II]at hsc;have aNT:cs.toList.length=cs.size:=rfl
        have Ab:∀j:Nat,(⟨aG (L.s+o+sLen*i.size) new' cs.toList⟩:Array Value)[j]? =if L.s+o+sLen*i.size<=j/\j<L.s+o+sLen*i.size+new'.length then new'[j-(L.s+o+sLen*i.size)]? else cs[j]? :=by
         intro j;have:=fL (L.s+o+sLen*i.size) new' cs.toList (by omega) j;simpa using this
        obtain⟨r1,r2⟩:=Wj.aMf (S:=S.set b (.cells vs e' .qV)) hL hob (olds:=olds) holds
         (fun j y M hy hd hM hMb=>by
          rw [zQ]at hy;split at hy
          ·rename_i eq;exact .inl eq
          ·rename_i eq
           rcases h.sep b j _ y L M (dV eq) ho hy rfl hd hL hM hMb.symm with ⟨g1,_⟩ | g1 | g1
           ·cases g1
           ·exact .inr g1
           ·cases y with
            | cells us u kk=>
             cases kk with
             | grown l=>
              obtain⟨_,g2⟩:=h.old j us u l hy b g1;rcases g2 _ ho with g3 | ⟨ws,u',g3,_⟩
              ·cases g3
              ·injection g3 with _ _ g3;cases g3
             | _=>cases g1
            | _=>cases g1)
         (cs':=⟨aG (L.s+o+sLen*i.size) new' cs.toList⟩) hb (by show(aG _ _ _).length=_;rw [kG _ _ _ (by omega)];exact aNT)
         (fun j hj=>by rw [Ab,if_neg (by omega)]) (e2:=e) (s2:=L.s+o) (new:=(vs.drop o).take (sLen*i.size)++new)
         (by
          have:=Qk.1;rw [bW];omega)
         (fun j v hj=>by
          have aMh:((vs.drop o).take (sLen*i.size)).length=sLen*i.size:=by rw [Qk.1,Cw]
          rw [List.getElem?_append]at hj;rw [Ab];split at hj
          ·rename_i hlt
           rw [aMh]at hlt;rw [if_neg (by omega)];rw [kZ,if_pos hlt,kI]at hj;rw [sX];exact hcv _ _ hj
          ·rename_i hlt
           rw [aMh]at hlt hj;have PF:=(cZ.1 hj).1;have:=hn.1;rw [if_pos (by omega),show L.s+o+j-(L.s+o+sLen*i.size)=j-sLen*i.size by omega];exact hn.get hj)
         Is hLe (by rw [hLm];exact hm) hel tH
        refine⟨_,_,_,_,_,hk,CG (w1:=w.putObj L.b (.cells ⟨aG (L.s+o+sLen*i.size) new' cs.toList⟩ t' fz)) h0 h1 ht WJ hi hlen sJ hc (fun a ha=>?_) (fun e=>by cases e),?_,r1,?_⟩
        ·injection ha with ha
         rw [<-ha,lF];exact hsc
        ·have Df:=Rn.jN U S.n ⟨L.b,L.s+o,L.e,L.m⟩
         exact VR.oG (o:=0) (n:=sLen+n) (c:=sLen+n) (c':=c') Df sJ (bN _) Qt hmp
        ·exact r2
      ·
        have dD:=CI (w:=w) (ty:=ty) (base:=some ⟨L.b,L.s+o,none⟩) (sLen:=sLen) (sCap:=c') (olds:=aDS) h0 h1 ht WJ hi hz hlen (by omega) QR (run_loadCells (w:=w.drew) _ aDS Cw hcell) hcD
        obtain⟨U',r0,r1,r2⟩:=Wj.fresh (S:=S.set b (.cells vs e' .qV)) (Qk.append hn) (by rw [bW,Cw,IC,<-kJ]) hm Ps QN (grownCap_ge w (sLen+n) c' e) (olds:=b::olds)
         (fun q hq=>by
          rcases cO.1 hq with rfl | hq
          ·refine⟨aJC,fun y hy=>?_⟩
           rw [hob]at hy;injection hy with hy;exact .inr ⟨vs,e',hy.symm⟩
          ·obtain⟨g1,g2⟩:=holds q hq
           refine⟨g1,fun y hy=>?_⟩;rcases g2 y hy with g3 | ⟨ws,u,g3,_⟩
           ·exact .inl g3
           ·exact .inr ⟨ws,u,g3⟩)
        exact⟨U',_,_,_,_,hk,dD,r0,r1,r2⟩
     ·cases hk
    ·cases hk
   ·cases AA
 ·cases hk
theorem zR (h:Rel P w0 U S w){ts:Array TypeId}{ty:TypeId}{s s' x x':Value}{K:VK} (hk:oF P ts.toList s x S K=true) (hs:VR U s s') (hx:VR U x x'):
 ∃U' v S' v' w',K v S'=true/\(Builtin.append_ ts ty #[s',x']).run P w= .ok v' w'/\VR U' v v'/\Rel P w0 U' S' w'/\sQ U w U' w':=by
 unfold oF at hk;split at hk
 ·rename_i sT xT rest Dc
  have h0:ts[0]? =some sT:=by have:=kA (·[0]?) Dc;simpa using this
  have h1:ts[1]? =some xT:=by have:=kA (·[1]?) Dc;simpa using this
  split at hk
  ·rename_i elem he WJ
   have ht:=fS he;split at hk
   ·rename_i info hi
    split at hk
    ·rename_i size z base sLen sCap JU hz
     split at hk
     ·rename_i WG
      have WG:=cV WG;obtain⟨n,hk,hlen,hf0⟩:=YF (P:=P) hk hx;split at hk
      ·
        split at hk
        ·rename_i hle
         have hle:=bE hle
         have main:∀SM c',sLen<=c'->s'= .slice SM sLen c'->∃U' v S' v' w',K v S'=true/\(Builtin.append_ ts ty #[s',x']).run P w= .ok v' w'/\VR U' v v'/\Rel P w0 U' S' w'/\sQ U w U' w':=by
          intro SM c' hc' e;refine⟨U,_,S,_,w,hk,?_,hs,h,.refl U w⟩;rw [e];exact CG (w1:=w) h0 h1 ht WJ hi hlen (by omega) (hf0 _ w) (fun a _=>by rfl) (fun _=>rfl)
         cases hs with
         | flat _=>exact main _ _ hle rfl
         | slice _=>exact main _ _ hle rfl
         | oG _ _ _ _ _=>exact main _ _ (by omega) rfl
         | wT=>exact main _ _ (by omega) rfl
         | wU _=>exact main _ _ (by omega) rfl
        ·cases hk
      ·obtain⟨new,new',hk,hn,IC,hc,hcD⟩:=SK h hk hx
       rw [aY]at hk;split at hk
       ·rename_i hb
        have hb:=Qe hb;split at hk
        ·rename_i KF
         exact Lr (_x:=x) h h0 h1 ht WJ hi JU hs hlen hn hc (bE KF) hk
        ·rename_i KF
         exact Hk (_x:=x) h h0 h1 ht WJ hi JU hz WG (Nat.succ_pos _) hs hlen hn IC hc hcD (fun e=>by rw [iW e]at KF;cases KF) hb hk
       ·cases hk
     ·cases hk
    ·cases hk
   ·cases hk
  ·cases hk
 ·cases hk
theorem Qu (h:Rel P w0 U S w){ts:Array TypeId}{ty:TypeId}{d d' x x':Value}{K:VK} (hk:Il P ts.toList d x S K=true) (hd:VR U d d') (hx:VR U x x'):
 ∃v S' v' w',K v S'=true/\(Builtin.copy_ ts ty #[d',x']).run P w= .ok v' w'/\VR U v v'/\Rel P w0 U S' w'/\sQ U w U w':=by
 unfold Il at hk;split at hk
 ·rename_i dT rest Dc
  have h0:ts[0]? =some dT:=by have:=kA (·[0]?) Dc;simpa using this
  split at hk
  ·rename_i elem he
   have ht:=fS he;split at hk
   ·rename_i size base dLen dCap JU
    obtain⟨m,hk,hlen,hf0⟩:=YF (P:=P) hk hx;rw [aY]at hk;split at hk
    ·rename_i aB3
     refine⟨_,S,.int .i64 0,w,hk,?_,.flat rfl,h,.refl U w⟩
     have main:∀SM c',(Builtin.copy_ ts ty #[.slice SM dLen c',x']).run P w= .ok (.int .i64 0) w:=by
      intro SM c';cases SM with
      | none=>simp only [Builtin.copy_,Kp,Ce,KQ,h0,bY,run_underlying ht,dK,hlen,gD JU,aB3,hf0,iY,goInt];rfl
      | some a=>simp only [Builtin.copy_,Kp,Ce,KQ,h0,bY,run_underlying ht,dK,hlen,gD JU,aB3,hf0,iY,goInt];rfl
     cases hd with
     | flat _=>exact main _ _
     | slice _=>exact main _ _
     | oG _ _ _ _ _=>exact main _ _
     | wT=>exact main _ _
     | wU _=>exact main _ _
    ·rename_i n' aB3
     obtain⟨new,new',hk,hn,IC,hc,hcD⟩:=SK h hk hx;split at hk
     ·rename_i i o sp
      split at hk
      ·rename_i AA DI
       rw [jJ]at DI;have DI:=GX hn (dL.1 DI);rcases hd.iG with ⟨L,c',hL,rfl,_⟩ | ⟨⟨_,aDR⟩,_⟩
       ·obtain⟨S',w',hk,r1,r2,dD⟩:=tU h hk hL hn DI
        refine⟨_,S',.int .i64 ((n'+1:Nat):Int),w',hk,?_,.flat rfl,r1,r2⟩;simp only [Builtin.copy_,Kp,Ce,KQ,h0,bY,run_underlying ht,dK,hlen,gD JU,aB3,hc,dD,iY,goInt]
       ·rw [aDR]at AA;cases AA
      ·cases hk
     ·cases hk
   ·cases hk
  ·cases hk
 ·cases hk
end
section
variable{P:Program}{w0:World}{U:Rn}{S:St}{w:World}
def Out (P:Program) (w0:World) (U:Rn) (w:World) (K:VK) (s:Sem Next):Prop:=
 ∃r U' v S' v' w',K v S'=true/\s.run P w= .ok r w'/\(r= .value v'\/(r= .skip/\v'=undef))/\VR U' v v'/\Rel P w0 U' S' w'/\sQ U w U' w'
theorem Out.here (h:Rel P w0 U S w){K:VK}{s:Sem Value}{v v':Value} (hk:K v S=true) (hv:VR U v v') (hr:s.run P w= .ok v' w):Out P w0 U w K (do pure (.value (<-s))):=
 ⟨_,U,v,S,v',w,hk,by rw [bY,hr];rfl,.inl rfl,hv,h,.refl U w⟩
theorem Out.new{K:VK}{s:Sem Value} (h:∃U' v S' v' w',K v S'=true/\s.run P w= .ok v' w'/\VR U' v v'/\Rel P w0 U' S' w'/\sQ U w U' w'):Out P w0 U w K (do pure (.value (<-s))):=by
 obtain⟨U',v,S',v',w',hk,hr,hv,h1,h2⟩:=h;exact⟨_,U',v,S',v',w',hk,by rw [bY,hr];rfl,.inl rfl,hv,h1,h2⟩
theorem Out.unit{K:VK}{s:Sem Unit} (h:∃S' w',K undef S'=true/\Rel P w0 U S' w'/\sQ U w U w'/\s.run P w= .ok () w'):Out P w0 U w K (do s;pure .skip):=by
 obtain⟨S',w',hk,h1,h2,hr⟩:=h;exact⟨_,U,undef,S',undef,w',hk,by rw [bY,hr];rfl,.inr ⟨rfl,rfl⟩,.tuple rfl (by simp),h1,h2⟩
theorem VR.nat{k:IntKind}{n:Nat}:VR U (.int k (.ofNat n)) (.int k (n:Int)):= .flat rfl
theorem VR.undef:VR U undef undef:= .tuple rfl (by simp)
theorem Xo{ts:Array TypeId}{ty t e:TypeId}{zero:List Value}{n c:Nat}{a:Addr}{w':World} (h0:ts[0]? =some t) (ht:P.underlying t=some (.slice e)) (hz:sH P e=some zero) (hn:n≠0) (uR:zero≠[])
 (hs:(storeCells a (List.replicate n zero).flatten).run P w= .ok () w'):(Builtin.clear_ ts ty #[.slice (some a) n c]).run P w= .ok (.tuple #[]) w':=by
 obtain⟨zv,YC,Av⟩:=yP hz w
 have hzz:Builtin.zeroCells zv.cells n=⟨(List.replicate n zero).flatten⟩:=by
  have:=DJ zero zv.cells Av n uR;have hl:zv.cells.size=zero.length:=by rw [<-Av];rfl
  unfold Builtin.zeroCells;rw [show n*zv.cells.size=n*zero.length by rw [hl]];exact this
 cases n with
 | zero=>exact absurd rfl hn
 | succ n=>simp [Builtin.clear_,h0,run_underlying ht,YC,hzz,hs]
theorem aB4{ts:Array TypeId}{ty:TypeId}{j:IntKind}{K:Value->Bool}:∀{l l':List Value} {x:Int},PB false l j x K=true->kK U l l'->∃y,K (.int j y)=true/\∀w,(Builtin.min_ ts ty ⟨.int j x::l'⟩).run P w= .ok (.int j y) w:=by
 intro l;induction l with
 | nil=>intro l' x hk hl;cases hl.iH;exact⟨x,hk,fun w=>by simp [Builtin.min_]⟩
 | cons v l ih=>
  intro l' x hk hl;obtain⟨v',t',rfl,hv,ht⟩:=hl.bU;cases v with
  | int k y=>
   cases hv.of_flat rfl;have hk:dF (Hf y x) (PB false l j y K) (PB false l j x K)=true:=hk;rw [DN]at hk;by_cases hlt:y<x
   ·rw [bK hlt]at hk
    obtain⟨z,hz,hr⟩:=ih hk ht;refine⟨z,hz,fun w=>?_⟩;have:=hr w;simp only [Builtin.min_,Kx,Builtin.min2,if_pos hlt,bY,iY,dK]at this ⊢;exact this
   ·rw [bM hlt]at hk
    obtain⟨z,hz,hr⟩:=ih hk ht;refine⟨z,hz,fun w=>?_⟩;have:=hr w;simp only [Builtin.min_,Kx,Builtin.min2,if_neg hlt,bY,iY,dK]at this ⊢;exact this
  | _=>cases hk
theorem aB5{ts:Array TypeId}{ty:TypeId}{j:IntKind}{K:Value->Bool}:∀{l l':List Value} {x:Int},PB true l j x K=true->kK U l l'->∃y,K (.int j y)=true/\∀w,(Builtin.max_ ts ty ⟨.int j x::l'⟩).run P w= .ok (.int j y) w:=by
 intro l;induction l with
 | nil=>intro l' x hk hl;cases hl.iH;exact⟨x,hk,fun w=>by simp [Builtin.max_]⟩
 | cons v l ih=>
  intro l' x hk hl;obtain⟨v',t',rfl,hv,ht⟩:=hl.bU;cases v with
  | int k y=>
   cases hv.of_flat rfl;have hk:dF (Hf x y) (PB true l j y K) (PB true l j x K)=true:=hk;rw [DN]at hk;by_cases hlt:x<y
   ·rw [bK hlt]at hk
    obtain⟨z,hz,hr⟩:=ih hk ht;refine⟨z,hz,fun w=>?_⟩;have:=hr w;simp only [Builtin.max_,Kx,Builtin.max2,if_pos hlt,bY,iY,dK]at this ⊢;exact this
   ·rw [bM hlt]at hk
    obtain⟨z,hz,hr⟩:=ih hk ht;refine⟨z,hz,fun w=>?_⟩;have:=hr w;simp only [Builtin.max_,Kx,Builtin.max2,if_neg hlt,bY,iY,dK]at this ⊢;exact this
  | _=>cases hk
theorem Di (h:Rel P w0 U S w){b:Builtin}{ts:Array TypeId}{ty:TypeId}{cs:Array Bool}{args dI:List Value}{K:VK} (hk:mY P b ts.toList args S K=true) (ha:kK U args dI):
 Out P w0 U w K (builtin b ts ty cs ⟨dI⟩):=by
 unfold mY at hk;split at hk
 ·
   rename_i x;obtain⟨x',t',rfl,hx,ht'⟩:=ha.bU;cases ht'.iH;split at hk
   ·rename_i t rest Dc
    have h0:ts[0]? =some t:=by have:=kA (·[0]?) Dc;simpa using this
    split at hk
    ·rename_i base n c
     split at hk
     ·rename_i e he
      have hu:=fS he;refine Out.here h hk (v':= .int .i64 (n:Int)) .nat ?_;have main:∀b' c',(Builtin.len_ ts ty ⟨[.slice b' n c']⟩).run P w= .ok (.int .i64 (n:Int)) w:=fun b' c'=>by simp [Builtin.len_,h0,run_underlying hu,goInt]
      cases hx with
      | flat _=>exact main _ _
      | slice _=>exact main _ _
      | oG _ _ _ _ _=>exact main _ _
      | wT=>exact main _ _
      | wU _=>exact main _ _
     ·cases hk
    ·rename_i s
     cases hx.of_flat rfl;split at hk
     ·rename_i hu
      rw [jT]at hk;refine Out.here h hk (v':= .int .i64 (s.data.toList.length:Int)) .nat ?_;simp [Builtin.len_,h0,run_underlying hu,goInt]
     ·cases hk
    ·rename_i r
     split at hk
     ·rename_i q hm
      have hu:=vX hm;rcases CU hk with ⟨e1,tC⟩ | ⟨r,es,c,e1,ho,tC⟩
      ·rw [e1]at hx
       cases hx.of_flat rfl;exact Out.here h tC (v':= .int .i64 0) (.flat rfl) (by simp [Builtin.len_,h0,run_underlying hu,goInt])
      ·rw [e1]at hx
       obtain⟨L,hL,rfl⟩:=hx.CE;obtain⟨iD,_,hb,NS⟩:=h.map ho hL;simp only [jT]at tC;refine Out.here h tC (v':= .int .i64 (es.length:Int)) .nat ?_;have hl:iD.size=es.length:=by rw [NS.1];rfl
       simp [Builtin.len_,h0,run_underlying hu,MapKept.run_getObj_map hb,goInt,hl]
     ·cases hk
    ·split at hk
     ·rename_i n e hu
      exact Out.here h hk (v':= .int .i64 (n:Int)) .nat (by simp [Builtin.len_,h0,run_underlying hu,goInt])
     ·cases hk
    ·cases hk
   ·cases hk
 ·obtain⟨s',t1,rfl,hs,ht1⟩:=ha.bU
  obtain⟨x',t2,rfl,hx,ht2⟩:=ht1.bU;cases ht2.iH;exact Out.new (zR h hk hs hx)
 ·obtain⟨s',t1,rfl,hs,ht1⟩:=ha.bU
  obtain⟨x',t2,rfl,hx,ht2⟩:=ht1.bU;cases ht2.iH;obtain⟨v,S',v',w',h1,h2,h3,h4,h5⟩:=Qu h hk hs hx;exact Out.new ⟨U,v,S',v',w',h1,h2,h3,h4,h5⟩
 ·obtain⟨s',t1,rfl,hs,ht1⟩:=ha.bU
  obtain⟨x',t2,rfl,hx,ht2⟩:=ht1.bU;cases ht2.iH;obtain⟨S',w',h1,h2,h3,h4⟩:=Hi (t:=ty) h hk hs hx;exact Out.new ⟨U,_,S',_,w',h1,h4,.undef,h2,h3⟩
 ·rename_i j x l
  obtain⟨s',t1,rfl,hs,ht1⟩:=ha.bU;cases hs.of_flat rfl;obtain⟨y,hk,dD⟩:=aB4 hk ht1;exact Out.here h hk (.flat rfl) (dD w)
 ·rename_i j x l
  obtain⟨s',t1,rfl,hs,ht1⟩:=ha.bU;cases hs.of_flat rfl;obtain⟨y,hk,dD⟩:=aB5 hk ht1;exact Out.here h hk (.flat rfl) (dD w)
 ·
   rename_i x;obtain⟨x',t',rfl,hx,ht'⟩:=ha.bU;cases ht'.iH;split at hk
   ·rename_i t rest Dc
    have h0:ts[0]? =some t:=by have:=kA (·[0]?) Dc;simpa using this
    split at hk
    ·rename_i c he
     have hu:=fS he;cases hx.of_flat rfl;exact Out.here h hk (v':= .int .i64 (c:Int)) .nat (by simp [Builtin.cap_,h0,run_underlying hu,goInt])
    ·rename_i c he
     have hu:=fS he;rcases hx.iG with ⟨L,c1,hL,rfl,⟨_,rfl⟩ | ⟨hs,_⟩⟩ | ⟨⟨_,hs⟩,_⟩
     ·exact Out.here h hk (v':= .int .i64 (c1:Int)) .nat (by simp [Builtin.cap_,h0,run_underlying hu,goInt])
     ·cases hs
     ·cases hs
    ·cases hk
   ·cases hk
 ·
   rename_i base n c;obtain⟨s',t1,rfl,hs,ht1⟩:=ha.bU;cases ht1.iH;split at hk
   ·rename_i t rest Dc
    have h0:ts[0]? =some t:=by have:=kA (·[0]?) Dc;simpa using this
    split at hk
    ·rename_i elem he
     have hu:=fS he;split at hk
     ·rename_i size zero hsz hz
      split at hk
      ·cases hs.of_flat rfl
       exact Out.here h hk .undef (v':= .tuple #[]) (by simp [Builtin.clear_,h0,run_underlying hu])
      ·refine Out.here h hk .undef (v':= .tuple #[]) ?_
       have main:∀b' c',(Builtin.clear_ ts ty ⟨[.slice b' 0 c']⟩).run P w= .ok (.tuple #[]) w:=fun b' c'=>by cases b'<;>simp [Builtin.clear_,h0,run_underlying hu]
       cases hs with
       | flat _=>exact main _ _
       | slice _=>exact main _ _
       | oG _ _ _ _ _=>exact main _ _
       | wT=>exact main _ _
       | wU _=>exact main _ _
      ·rename_i i o sp n
       split at hk
       ·rename_i q AA YB Ps
        rw [zP]at hk;rw [jJ]at YB;have aMi:∀v∈zero,bA v=true:=dL.1 YB;have Ps:=cV Ps;have Im:kK U (List.replicate (n+1) zero).flatten (List.replicate (n+1) zero).flatten:=(kK.flat aMi).flatten _;rcases hs.iG with ⟨L,c',hL,rfl,_⟩ | ⟨⟨_,aDR⟩,_⟩
        ·obtain⟨S',w',hk,r1,r2,dD⟩:=tU h hk hL Im (fun v hv=>by
          simp only [List.mem_flatten,List.mem_replicate]at hv;obtain⟨l,⟨_,rfl⟩,hv⟩:=hv;have:=aMi v hv;cases v<;>first | rfl | (simp [bA]at this))
         exact Out.new ⟨U,_,S',_,w',hk,Xo h0 hu hz (by omega) (by intro e;rw [e]at Ps;simp at Ps) dD,.undef,r1,r2⟩
        ·rw [aDR]at AA;cases AA
       ·cases hk
     ·cases hk
    ·cases hk
   ·cases hk
 ·cases hk
end
end Go.Am
