/- AM, an abstract machine for the model's code: its state, its operations, its evaluator: plain definitions, no theorem about any program. -/
import Derived.OrdersIn
import Derived.RangeFuncIn
import Derived.RangeFuncLeaves
import Derived.Below
import GoSem.Dispatch
import Derived.RangeFuncRecord
import Derived.Laws.StructEq
import Derived.Laws.MakeOwn
import Derived.MapKept
import Derived.Laws.IdiomStrings
import Derived.Laws.BytesArg
import Derived.Maps.RangeRun
import Derived.Laws.AppendOwn

noncomputable section
namespace Go.Am
abbrev aQ:= @List.getElem?_eq_getElem
abbrev bG:= @Nat.exists_eq_succ_of_ne_zero
abbrev bF:= @decide_eq_true
abbrev bJ:= @decide_eq_false
abbrev cG:= @Nat.le_of_ble_eq_true
abbrev aG:= @if_neg
abbrev dE:= @Nat.eq_of_beq_eq_true
abbrev cK:= @List.getElem_mem
abbrev gI:= @List.getElem?_append_left
abbrev bR:= @Nat.le_refl
abbrev dO:= @List.getElem?_map
abbrev aO:= @Ne.symm
abbrev aJ:= @if_pos
abbrev kI:= @List.getElem?_append_right
abbrev eE:= @Result.andThen_ok
abbrev dR:= @Bool.and_eq_true
abbrev lP:= @List.drop_eq_getElem_cons
abbrev cP:= @Sem.run_bind
abbrev dD:= @Bool.not_true
abbrev rY:= @List.eq_nil_of_length_eq_zero
abbrev lQ:= @List.take_of_length_le
abbrev jU:= @List.length_append
abbrev aX:= @absurd
abbrev nJ:= @Nat.ble_eq_true_of_le
abbrev eG:= @Nat.zero_add
abbrev oS:= @List.drop_of_length_le
abbrev oT:= @List.getElem?_drop
abbrev mP:= @List.length_take
abbrev pK:= @List.getElem?_take
abbrev lR:= @List.length_map
abbrev BD:= @List.getD_eq_getElem?_getD
abbrev oU:= @List.length_cons
abbrev uM:= @List.length_zipWith
abbrev rZ:= @Nat.lt_succ_of_lt
abbrev kJ:= @Sem.run_pure
abbrev jL:= @Nat.mul_one
abbrev iY:= @Nat.mod_lt
abbrev xE:= @List.ext_getElem?
abbrev CW:= @List.mem_of_getElem?
abbrev FK:= @List.getElem?_eq_none
abbrev xF:= @Nat.lt_succ_self
abbrev uN:= @Bool.not_false
abbrev BE:= @List.append_assoc
abbrev CX:= @Nat.lt_of_lt_of_le
abbrev IE:= @List.getElem?_set_ne
abbrev uO:= @Nat.add_assoc
abbrev iZ:= @congrArg
abbrev xG:= @List.drop_zero
abbrev IF:= @List.replicate_succ
abbrev OQ:= @List.length_replicate
abbrev CY:= @Option.map_some
abbrev OR:= @Nat.add_eq_zero_iff
abbrev Bf:= @Array.toList_setIfInBounds
abbrev IG:= @List.length_drop
abbrev KM:= @List.take_add_one
abbrev KN:= @Bool.not_eq_true'
abbrev RG:= @Nat.mul_le_mul_right
abbrev VG:= @List.getElem?_set_self
abbrev VH:= @Nat.ne_of_beq_eq_false
abbrev zA:= @Nat.le_trans
abbrev KO:= @List.all_eq_true
abbrev OS:= @List.flatten_cons
abbrev BF:= @Nat.lt_or_ge
abbrev Bg:= @List.getElem?_cons_succ
abbrev VI:= @Int.ofNat_eq_natCast
abbrev RH:= @Nat.eq_zero_or_pos
abbrev Hl:= @Array.getElem?_eq_getElem
abbrev BG:= @Nat.zero_le
abbrev OT:= @Nat.one_ne_zero
abbrev OU:= @List.append_nil
abbrev Bh:= @List.getElem?_of_mem
abbrev Bi:= @List.getElem?_range
abbrev Bj:= @List.getElem_of_mem
abbrev RI:= @List.map_append
abbrev VJ:= @Nat.mod_eq_of_lt
abbrev Hm:= @List.mem_of_mem_take
abbrev Hn:= @List.mem_of_mem_drop
abbrev VL:= @Bool.or_eq_true
abbrev Wu:= @Array.getD_eq_getD_getElem?
abbrev KP:= @Nat.add_mul
abbrev Ho:= @Bool.false_eq_true
abbrev Nl:= @Array.getElem?_toList
abbrev Bk:= @List.length_set
abbrev Bl:= @List.mem_filter
abbrev Bm:= @List.nil_append
abbrev Nm:= @List.getElem_zipWith
abbrev VM:= @List.all_cons
abbrev aCH:= @Array.getElem?_setIfInBounds_ne
abbrev Bn:= @List.drop_drop
abbrev Hq:= @Option.bind_some
abbrev Wv:= @List.getElem?_cons_zero
abbrev aCI:= @Array.eq_empty_of_size_eq_zero
abbrev RJ:= @Nat.le_succ
abbrev VN:= @Nat.add_zero
abbrev Ww:= @List.drop_eq_nil_of_le
abbrev aCJ:= @Array.getElem?_setIfInBounds
abbrev Bo:= @Bool.false_or
abbrev Bp:= @List.map_cons
abbrev Wx:= @Nat.lt_of_sub_eq_succ
abbrev Nn:= @List.getElem?_set
abbrev Np:= @List.flatMap_cons
abbrev Hr:= @List.mapM_cons
abbrev Bq:= @Nat.zero_mul
abbrev Br:= @Nat.beq_refl
abbrev Bs:= @Nat.succ_mul
abbrev Bt:= @Nat.mul_succ
abbrev Bu:= @Nat.le_of_eq
abbrev Nq:= @Nat.succ_ne_zero
abbrev Wy:= @List.take_succ_cons
abbrev Wz:= @Array.getElem?_push
abbrev Hs:= @Bool.true_and
abbrev Nr:= @List.foldl_cons
abbrev Ns:= @Bool.eq_iff_iff
abbrev zI:Value:= .int .i64 (.ofNat 0)
abbrev zS:Value:= .string ⟨⟨[]⟩⟩
abbrev zL:Value:= .slice none 0 0
abbrev zF:Value:= .bool false
inductive Tr (α:Type)where
 | leaf
 | node (v:Option α) (l r:Tr α)
namespace Tr
variable{α:Type}
def get:Tr α->Nat->Option α
 | leaf,_=>none
 | node v l r,n=>if n=0 then v else if n%2=1 then l.get (n / 2)else r.get (n / 2-1)
def JS (x:α):Nat->Tr α->Nat->Tr α
 | 0,t,_=>t
 | f+1,leaf,n=>if n=0 then node (some x) leaf leaf else if n%2=1 then node none (JS x f leaf (n / 2)) leaf else node none leaf (JS x f leaf (n / 2-1))
 | f+1,node v l r,n=>if n=0 then node (some x) l r else if n%2=1 then node v (JS x f l (n / 2)) r else node v l (JS x f r (n / 2-1))
def put (t:Tr α) (n:Nat) (x:α):Tr α:=JS x (n+1) t n
end Tr
section comb
variable{α:Type}{β:Type}
def pL (n:Nat) (z:β) (s:Nat->β):β:=Nat.rec (motive:=fun _=>β) z (fun p _=>s p) n
def fX (b:Bool) (t f:β):β:=Bool.rec (motive:=fun _=>β) f t b
def aPO (o:Option α) (z:β) (s:α->β):β:=Option.rec (motive:=fun _=>β) z s o
def aM8 (n:Int) (z:Nat->β) (s:Nat->β):β:=Int.rec (motive:=fun _=>β) z s n
def Nt (l:List α) (z:β) (s:α->List α->β):β:=List.rec (motive:=fun _=>β) z (fun a t _=>s a t) l
def MZ (z:β) (s:Nat->β->β) (n:Nat):β:=Nat.rec (motive:=fun _=>β) z s n
def gW (z:β) (s:α->List α->β->β) (l:List α):β:=List.rec (motive:=fun _=>β) z s l
def aPP (z:β) (s:Option α->Tr α->Tr α->β->β->β) (t:Tr α):β:=Tr.rec (motive:=fun _=>β) z s t
def aEp (t:Tr α) (z:β) (s:Option α->Tr α->Tr α->β):β:=Tr.rec (motive:=fun _=>β) z (fun v l r _ _=>s v l r) t
def aPQ (skip:β) (region:Array Oper->Bool->β) (seq:β->β->β) (cond:Operand->β->β->β) (block:Nat->β->β) (loop scope:β->β)
 (range:Operand->Array Tmp->Code->Code->β) (exit:Nat->β) (label ret bad:β) (c:Code):β:=
 Code.rec (motive:=fun _=>β) skip (fun _ ops draw=>region ops draw) (fun _ _ a b=>seq a b) (fun c _ _ a b=>cond c a b) (fun id _ h=>block id h) (fun _ h=>loop h)
  (fun f ps a b _ _=>range f ps a b) exit (fun _ h=>scope h) (fun _=>label) (fun _=>bad) ret (fun _=>bad) c
end comb
def rE{α:Type} (t:Tr α) (n:Nat) (k:α->Bool):Bool:=
 aPP (β:=Nat->Bool) (fun _=>false) (fun v _ _ gl gr n=>pL n (aPO v false k) fun p=>pL (Nat.mod p 2) (gl (Nat.div p 2)) fun _=>gr (Nat.div p 2)) t n
def ZF{α:Type} (x:α) (f:Nat):Tr α->Nat->(Tr α->Bool)->Bool:=
 MZ (β:=Tr α->Nat->(Tr α->Bool)->Bool) (fun t _ k=>k t)
  (fun _ ih t n k=>aEp t
   (pL n (k (.node (some x) .leaf .leaf)) fun p=>pL (Nat.mod p 2) (ih .leaf (Nat.div p 2) fun c=>k (.node none c .leaf)) fun _=>ih .leaf (Nat.div p 2) fun c=>k (.node none .leaf c))
   (fun v l r=>pL n (k (.node (some x) l r)) fun p=>pL (Nat.mod p 2) (ih l (Nat.div p 2) fun c=>k (.node v c r)) fun _=>ih r (Nat.div p 2) fun c=>k (.node v l c))) f
def bV (n:Nat) (k:Nat->Bool):Bool:=pL n (k 0) fun p=>k (Nat.succ p)
def CZ (n:Int) (k:Int->Bool):Bool:=aM8 n (fun m=>bV m fun m=>k (.ofNat m)) (fun m=>bV m fun m=>k (.negSucc m))
def Bv (b:Bool) (k:Bool->Bool):Bool:=fX b (k true) (k false)
def ZG{α:Type} (l:List α) (i:Nat) (k:α->Bool):Bool:=
 gW (β:=Nat->Bool) (fun _=>false) (fun a _ ih i=>pL i (k a) fun p=>ih p) l i
def aEq{α:Type} (v:α) (l:List α) (i:Nat) (k:List α->Bool):Bool:=
 gW (β:=Nat->(List α->Bool)->Bool) (fun _ k=>k []) (fun a t ih i k=>pL i (k (v::t)) fun p=>ih p fun t'=>k (a::t')) l i k
def aK5{α:Type} (l:List α) (k:List α->Bool):Bool:=
 gW (β:=(List α->Bool)->Bool) (fun k=>k []) (fun a _ ih k=>ih fun t=>k (a::t)) l k
def FL{α:Type} (l m:List α) (k:List α->Bool):Bool:=
 gW (β:=(List α->Bool)->Bool) (fun k=>k m) (fun a _ ih k=>ih fun t=>k (a::t)) l k
def VO{α:Type} (n:Nat) (l:List α) (k:List α->Bool):Bool:=
 MZ (β:=List α->(List α->Bool)->Bool) (fun _ k=>k []) (fun _ ih l k=>Nt l false fun a t=>ih t fun t'=>k (a::t')) n l k
def NC{α:Type} (n:Nat) (l:List α) (k:List α->Bool):Bool:=
 MZ (β:=List α->Bool) (fun l=>k l) (fun _ ih l=>Nt l false fun _ t=>ih t) n l
def aAK{α:Type} (new:List α) (l:List α) (k:List α->Bool):Bool:=
 gW (β:=List α->(List α->Bool)->Bool) (fun l k=>k l) (fun a _ ih l k=>Nt l false fun _ t=>ih t fun t'=>k (a::t')) new l k
def sU{α:Type} (off:Nat) (new l:List α) (k:List α->Bool):Bool:=
 MZ (β:=List α->(List α->Bool)->Bool) (fun l k=>aAK new l k) (fun _ ih l k=>Nt l false fun a t=>ih t fun t'=>k (a::t')) off l k
def KQ{α:Type} (l:List α) (k:Nat->Bool):Bool:=
 gW (β:=Nat->Bool) (fun n=>k n) (fun _ _ ih n=>bV (Nat.succ n) ih) l 0
def aAL{α:Type} (z:List α) (n:Nat) (k:List α->Bool):Bool:=
 MZ (β:=List α->Bool) (fun acc=>k acc) (fun _ ih acc=>FL z acc ih) n []
inductive CK where
 | exact
 | grown (olds:List Nat)
 | uB
 | ro
 | rs
structure Tm where
 t:Tr Value
 n:Nat
def YJ (T:Tm) (i:Nat) (k:Value->Bool):Bool:=rE T.t i k
def uC (v:Value) (T:Tm) (i:Nat) (k:Tm->Bool):Bool:=
 match Nat.blt i T.n with
 | true=>ZF v (Nat.succ i) T.t i fun t=>k ⟨t,T.n⟩
 | false=>false
def aEr (n:Nat) (args:List Value) (k:Tm->Bool):Bool:=
 gW (β:=Nat->Tm->Bool) (fun _ T=>k T) (fun a _ ih i T=>uC a T i fun T=>bV (Nat.succ i) fun i=>ih i T) args 0 ⟨.leaf,n⟩
inductive iW where
 | dead
 | cells (vs:List Value) (elem:TypeId) (k:CK)
 | map (es:List MapEntry) (clock:Nat)
 | loop (tmps:Tm) (params:List Tmp) (assign body:Code) (state:LoopState) (pending:Option Code)
 | defers
 | iter (m:Option Nat) (since:Nat) (seen:List Nat) (last:Nat)
structure St where
 h:Tr iW
 n:Nat
inductive yS where
 | normal
 | exit (id:Nat)
 | ret
structure bC where
 tmps:Tm
 marks:List Nat
 g:Nat
abbrev VK:=Value->St->Bool
abbrev aEs:=FuncId->List Value->St->VK->Bool
def bW:Value->Bool
 | .bool _ | .int .. | .string _ | .nilFunc | .nilIface | .pointer none | .slice none _ _ | .map none=>true
 | _=>false
def Dn (tY bytes:Nat):Bool:=match Nat.ble (tY*bytes) 140737488355328 with | true=>Nat.ble tY 140737488355328 | false=>false
theorem Nu{tY bytes:Nat} (h:tY*bytes<=140737488355328/\tY<=140737488355328):Dn tY bytes=true:=by
 unfold Dn;rw [nJ h.1];exact nJ h.2
theorem aHv{tY bytes:Nat} (h:Dn tY bytes=true):tY*bytes<=140737488355328/\tY<=140737488355328:=by
 unfold Dn at h;cases hb:Nat.ble (tY*bytes) 140737488355328 with
 | false=>rw [hb]at h;cases h
 | true=>rw [hb]at h;exact⟨cG hb,cG h⟩
def kR:Value->Bool
 | .agg _ | .tuple _=>false
 | _=>true
def xH{α:Type} (f:α->Bool) (l:List α):Bool:=gW (β:=Bool) true (fun a _ ih=>fX (f a) ih false) l
def kM:Value->Bool
 | .agg cs=>cs.toList.all bW
 | v=>bW v
def vM (A:bC) (x:Operand) (k:Value->Bool):Bool:=
 match x with
 | .tmp t=>YJ A.tmps t k
 | .const v=>match kM v with | true=>k v | false=>false
 | .global g=>match Nat.blt g A.g with | true=>k (.pointer (some ⟨g,0,none⟩)) | false=>false
 | .func f=>k (.func (.func f) #[] #[])
def VP (A:bC) (xs:List Operand) (k:List Value->Bool):Bool:=
 gW (β:=(List Value->Bool)->Bool) (fun k=>k []) (fun x _ ih k=>vM A x fun v=>ih fun vs=>k (v::vs)) xs k
def mJ (A:bC) (d:Option Tmp) (v:Value) (k:bC->Bool):Bool:=
 match d with
 | some d=>uC v A.tmps d fun ts=>k ⟨ts,A.marks,A.g⟩
 | none=>k A
def zB (S:St) (o:iW) (k:Nat->St->Bool):Bool:=
 ZF o (Nat.succ S.n) S.h S.n fun h=>bV (Nat.succ S.n) fun n=>k S.n ⟨h,n⟩
def sR (S:St) (i:Nat) (o:iW) (k:St->Bool):Bool:=ZF o (Nat.succ i) S.h i fun h=>k ⟨h,S.n⟩
def DA (S:St) (i:Nat) (k:List Value->TypeId->CK->Bool):Bool:=
 rE S.h i fun o=>match o with | .cells vs e c=>k vs e c | _=>false
def PM (S:St) (i off n:Nat) (k:List Value->Bool):Bool:=DA S i fun vs _ _=>NC off vs fun l=>VO n l k
def Uu (l:List Nat) (h:Tr iW) (k:Tr iW->Bool):Bool:=
 gW (β:=Tr iW->(Tr iW->Bool)->Bool) (fun h k=>k h) (fun i _ ih h k=>ZF .dead (Nat.succ i) h i fun h=>ih h k) l h k
def eqI:Int->Int->Bool
 | .ofNat a,.ofNat b=>Nat.beq a b
 | .negSucc a,.negSucc b=>Nat.beq a b
 | _,_=>false
def FM:IntKind->IntKind->Bool
 | .i8,.i8 | .i16,.i16 | .i32,.i32 | .i64,.i64 | .u8,.u8 | .u16,.u16 | .u32,.u32 | .u64,.u64=>true
 | _,_=>false
def Ht (new:List Value):List Value->Bool:=
 gW (β:=List Value->Bool) (fun _=>true) (fun a _ ih l=>Nt l false fun b t=>match a,b with
  | .int j x,.int k y=>match FM j k with
   | true=>match eqI x y with | true=>ih t | false=>false
   | false=>false
  | _,_=>false) new
def uP (S:St) (i off:Nat) (new:List Value) (k:St->Bool):Bool:=
 DA S i fun vs e c=>
  match c with
  | .exact=>sU off new vs fun vs=>sR S i (.cells vs e .exact) k
  | .grown olds=>NC off vs fun l=>match Ht new l with
   | true=>k S
   | false=>sU off new vs fun vs=>Uu olds S.h fun h=>ZF (.cells vs e (.grown [])) (Nat.succ i) h i fun h=>k ⟨h,S.n⟩
  | .rs=>NC off vs fun l=>match Ht new l with | true=>k S | false=>false
  | _=>false
def ltI:Int->Int->Bool
 | .ofNat a,.ofNat b=>Nat.blt a b
 | .ofNat _,.negSucc _=>false
 | .negSucc _,.ofNat _=>true
 | .negSucc a,.negSucc b=>Nat.blt b a
def sH (k:IntKind) (n:Int):Int:=
 match k,n with
 | .i64,.ofNat m=>match Nat.blt m 9223372036854775808 with | true=> .ofNat m | false=>k.wrap n
 | .i64,.negSucc m=>match Nat.blt m 9223372036854775808 with | true=> .negSucc m | false=>k.wrap n
 | .u64,.ofNat m=>match Nat.blt m 18446744073709551616 with | true=> .ofNat m | false=>k.wrap n
 | .u8,.ofNat m=>match Nat.blt m 256 with | true=> .ofNat m | false=>k.wrap n
 | k,n=>k.wrap n
def OV (k:IntKind) (n:Int) (K:Value->Bool):Bool:=CZ (sH k n) fun n=>K (.int k n)
def oK (b:Bool) (K:Value->Bool):Bool:=Bv b fun b=>K (.bool b)
def RK (op:BinOp) (k:IntKind) (x y:Int) (K:Value->Bool):Bool:=
 match op with
 | .add=>OV k (Int.add x y) K
 | .sub=>OV k (Int.sub x y) K
 | .mul=>OV k (Int.mul x y) K
 | .quo=>match eqI y 0 with | true=>false | false=>OV k (Int.tdiv x y) K
 | .rem=>match eqI y 0 with | true=>false | false=>CZ (Int.tmod x y) fun n=>K (.int k n)
 | .and=>CZ (k.wrap (BitVec.ofInt k.bits x &&& BitVec.ofInt k.bits y).toNat) fun n=>K (.int k n)
 | .or=>CZ (k.wrap (BitVec.ofInt k.bits x ||| BitVec.ofInt k.bits y).toNat) fun n=>K (.int k n)
 | .xor=>CZ (k.wrap (BitVec.ofInt k.bits x ^^^ BitVec.ofInt k.bits y).toNat) fun n=>K (.int k n)
 | .andNot=>CZ (k.wrap (BitVec.ofInt k.bits x &&& ~~~ BitVec.ofInt k.bits y).toNat) fun n=>K (.int k n)
 | .eql=>oK (eqI x y) K
 | .neq=>oK (!eqI x y) K
 | .lss=>oK (ltI x y) K
 | .leq=>oK (!ltI y x) K
 | .gtr=>oK (ltI y x) K
 | .geq=>oK (!ltI x y) K
 | _=>false
def Bw (op:BinOp) (k:IntKind) (x y:Int) (K:Value->Bool):Bool:=
 match ltI y 0 with
 | true=>false
 | false=>
  match op with
  | .shl=>OV k (x*2 ^ (min y.toNat k.bits)) K
  | .shr=>CZ (x.fdiv (2 ^ (min y.toNat k.bits))) fun n=>K (.int k n)
  | _=>false
def Nv (a b:List UInt8):Bool:=
 gW (β:=List UInt8->Bool) (fun b=>match b with | []=>true | _=>false)
  (fun x _ ih b=>match b with | []=>false | y::b=>match Nat.beq x.toNat y.toNat with | true=>ih b | false=>false) a b
def aFW (a b:List UInt8):Bool:=
 gW (β:=List UInt8->Bool) (fun b=>match b with | []=>false | _=>true)
  (fun x _ ih b=>match b with | []=>false | y::b=>match Nat.blt x.toNat y.toNat with | true=>true | false=>match Nat.beq x.toNat y.toNat with | true=>ih b | false=>false) a b
def Xa (op:BinOp) (a b:ByteArray) (K:Value->Bool):Bool:=
 match op with
 | .add=>KQ a.data.toList fun n=>KQ b.data.toList fun m=>match Nat.blt (n+m) 9223372036854775808 with
  | true=>FL a.data.toList b.data.toList fun l=>K (.string ⟨⟨l⟩⟩)
  | false=>false
 | .eql=>oK (Nv a.data.toList b.data.toList) K
 | .neq=>oK (!Nv a.data.toList b.data.toList) K
 | .lss=>oK (aFW a.data.toList b.data.toList) K
 | .leq=>oK (aFW a.data.toList b.data.toList || Nv a.data.toList b.data.toList) K
 | .gtr=>oK (!(aFW a.data.toList b.data.toList || Nv a.data.toList b.data.toList)) K
 | .geq=>oK (!aFW a.data.toList b.data.toList) K
 | _=>false
section ops
variable (P:Program)
def xI (t:TypeId):Option Bool:=(P.underlying t).map fun | .struct _ | .array _ _=>true | _=>false
def cN (t:TypeId):Option Nat:=(P.info? t).map (·.size)
def wM (t:TypeId):Option (List Value):=((P.info? t).bind (·.zero)).map (·.cells.toList)
def PO (t:TypeId) (a:Value) (S:St) (K:VK):Bool:=
 match a with
 | .pointer (some ⟨i,o,none⟩)=>
  match xI P t with
  | some false=>DA S i fun vs _ _=>ZG vs o fun v=>K v S
  | some true=>match cN P t with
   | some n=>PM S i o n fun l=>K (.agg ⟨l⟩) S
   | none=>false
  | none=>false
 | _=>false
def pM (v:Value) (k:List Value->Bool):Bool:=
 match v with
 | .agg cs=>match xH kR cs.toList with | true=>k cs.toList | false=>false
 | .tuple _=>false
 | v=>k [v]
def Bx (t:TypeId) (a x:Value) (S:St) (k:St->Bool):Bool:=
 match a with
 | .pointer (some ⟨i,o,none⟩)=>
  match cN P t with
  | some n=>pM x fun cs=>KQ cs fun m=>match Nat.beq m n with
   | true=>uP S i o cs k
   | false=>false
  | none=>false
 | _=>false
def aFX (d:Nat) (x:Option Value) (k:Nat->Bool):Bool:=
 match x with
 | none=>k d
 | some (.int _ (.ofNat n))=>k n
 | _=>false
def RM (len cap:Nat) (lo hi mx:Option Value) (k:Nat->Nat->Nat->Bool):Bool:=
 aFX cap mx fun m=>aFX len hi fun h=>aFX 0 lo fun l=>
  match Nat.ble l h,Nat.ble h m,Nat.ble m cap with
  | true,true,true=>k l h m
  | _,_,_=>false
def isSlice (t:TypeId):Option TypeId:=match P.underlying t with | some (.slice e)=>some e | _=>none
def uQ (t:TypeId) (x:Value) (lo hi mx:Option Value) (S:St) (K:Value->Bool):Bool:=
 match x with
 | .string s=>
  match P.underlying t,mx with
  | some .string,none=>KQ s.data.toList fun n=>RM n n lo hi none fun l h _=>VO h s.data.toList fun a=>NC l a fun b=>K (.string ⟨⟨b⟩⟩)
  | _,_=>false
 | .slice none len cap=>
  match isSlice P t with
  | some elem=>match cN P elem with
   | some _=>RM len cap lo hi mx fun l h m=>bV (h-l) fun n=>bV (m-l) fun c=>K (.slice none n c)
   | none=>false
  | none=>false
 | .slice (some ⟨i,o,sp⟩) len cap=>
  match isSlice P t with
  | some elem=>match cN P elem with
   | some size=>RM len cap lo hi mx fun l h m=>bV (h-l) fun n=>bV (m-l) fun c=>bV (o+l*size) fun o'=>
    match sp,mx with
    | none,_=>match Nat.beq m l with | true=>K (.slice (some ⟨i,o,none⟩) n c) | false=>K (.slice (some ⟨i,o',none⟩) n c)
    | some 0,some _=>match Nat.beq m l with | true=>K (.slice (some ⟨i,o,none⟩) n c) | false=>K (.slice (some ⟨i,o',none⟩) n c)
    | some 0,none=>match Nat.beq m l with
     | true=>K (.slice (some ⟨i,0,some 1⟩) 0 0)
     | false=>DA S i fun _ e ck=>match ck,cN P e with
      | .exact,_=>false
      | _,some q=>match Nat.beq q size with | true=>K (.slice (some ⟨i,o',some 0⟩) n c) | false=>false
      | _,none=>false
    | some _,_=>K (.slice (some ⟨i,0,some 1⟩) 0 0)
   | none=>false
  | none=>false
 | .pointer (some ⟨i,o,none⟩)=>
  match P.underlying t with
  | some (.array len elem)=>match cN P elem with
   | some size=>RM len len lo hi mx fun l h m=>bV (h-l) fun n=>bV (m-l) fun c=>bV (o+l*size) fun o'=>
    match Nat.beq m l with | true=>K (.slice (some ⟨i,o,none⟩) n c) | false=>K (.slice (some ⟨i,o',none⟩) n c)
   | none=>false
  | _=>false
 | _=>false
def FN (t:TypeId) (x ix:Value) (K:Value->Bool):Bool:=
 match ix with
 | .int _ (.ofNat i)=>
  match x with
  | .slice (some ⟨b,o,sp⟩) len _=>
   match sp with
   | some (_+1)=>false
   | _=>match isSlice P t with
    | some elem=>match cN P elem,Nat.blt i len with
     | some size,true=>bV (o+i*size) fun o=>K (.pointer (some ⟨b,o,none⟩))
     | _,_=>false
    | none=>false
  | .pointer (some ⟨b,o,none⟩)=>
   match P.underlying t with
   | some (.array len elem)=>match cN P elem,Nat.blt i len with
    | some size,true=>bV (o+i*size) fun o=>K (.pointer (some ⟨b,o,none⟩))
    | _,_=>false
   | _=>false
  | _=>false
 | _=>false
def DB (s:TypeId) (f:Nat):Option Field:=match P.underlying s with | some (.struct fs)=>fs[f]? | _=>none
def FO (s:TypeId) (x:Value) (f:Nat) (K:Value->Bool):Bool:=
 match x with
 | .pointer (some ⟨b,o,none⟩)=>
  match DB P s f with
  | some fd=>match cN P fd.type with
   | some (_+1)=>bV (o+fd.offset) fun o=>K (.pointer (some ⟨b,o,none⟩))
   | _=>false
  | none=>false
 | _=>false
def Uv (t:TypeId) (cs:List Value) (off:Nat) (K:Value->Bool):Bool:=
 match xI P t with
 | some false=>ZG cs off K
 | some true=>match cN P t with
  | some n=>NC off cs fun l=>VO n l fun l=>K (.agg ⟨l⟩)
  | none=>false
 | none=>false
def VQ (t:TypeId) (x:Value) (f:Nat) (K:Value->Bool):Bool:=
 match x with
 | .agg cs=>match DB P t f with
  | some fd=>Uv P fd.type cs.toList fd.offset K
  | none=>false
 | _=>false
def Hu (t:TypeId) (x ix:Value) (K:Value->Bool):Bool:=
 match ix with
 | .int _ (.ofNat i)=>
  match x with
  | .agg cs=>match P.underlying t with
   | some (.array len elem)=>match cN P elem,Nat.blt i len with
    | some size,true=>Uv P elem cs.toList (i*size) K
    | _,_=>false
   | _=>false
  | .string s=>match P.underlying t with
   | some .string=>ZG s.data.toList i fun b=>bV b.toNat fun n=>K (.int .u8 (.ofNat n))
   | _=>false
  | _=>false
 | _=>false
def ZX (place:Nat->Option (Nat×Nat)) (parts:List (Nat×Value)) (cells:List Value) (k:List Value->Bool):Bool:=
 gW (β:=List Value->Bool) (fun cs=>k cs)
  (fun p _ ih cs=>match place p.1 with
   | some (off,size)=>pM p.2 fun new=>KQ new fun m=>match Nat.beq m size with
    | true=>sU off new cs ih
    | false=>false
   | none=>false) parts cells
def IH (A:bC) (parts:List (Nat×Operand)) (k:List (Nat×Value)->Bool):Bool:=
 gW (β:=(List (Nat×Value)->Bool)->Bool) (fun k=>k []) (fun p _ ih k=>vM A p.2 fun v=>ih fun l=>k ((p.1,v)::l)) parts k
def placesOf (fields:List Field):Option (List (Nat×Nat)):=fields.mapM fun f=>(cN P f.type).map fun s=>(f.offset,s)
def Nx (A:bC) (t:TypeId) (parts:List (Nat×Operand)) (K:Value->Bool):Bool:=
 match wM P t,P.underlying t with
 | some zero,some (.struct fields)=>match placesOf P fields.toList with
  | some pl=>match xH bW zero with
   | true=>IH A parts fun ps=>ZX (pl[·]?) ps zero fun cs=>K (.agg ⟨cs⟩)
   | false=>false
  | none=>false
 | some zero,some (.array _ elem)=>match cN P elem with
  | some size=>match xH bW zero with
   | true=>IH A parts fun ps=>ZX (fun i=>some (i*size,size)) ps zero fun cs=>K (.agg ⟨cs⟩)
   | false=>false
  | none=>false
 | _,_=>false
def BY (A:bC) (t:TypeId) (len:Nat) (parts:List (Nat×Operand)) (S:St) (K:VK):Bool:=
 match isSlice P t with
 | some elem=>match cN P elem,wM P elem with
  | some (size+1),some zero=>match Nat.ble (len*(size+1)) 16777216,Nat.beq zero.length (size+1)with
   | true,true=>match xH bW zero with
    | true=>aAL zero len fun cs=>IH A parts fun ps=>ZX (fun i=>some (i*(size+1),size+1)) ps cs fun cs=>
     zB S (.cells cs elem .exact) fun i S=>K (.slice (some ⟨i,0,none⟩) len len) S
    | false=>false
   | _,_=>false
  | _,_=>false
 | none=>false
def VT (t:TypeId) (S:St) (K:VK):Bool:=
 match wM P t with
 | some zero=>match xH bW zero with
  | true=>aK5 zero fun zero=>zB S (.cells zero t .exact) fun i S=>K (.pointer (some ⟨i,0,none⟩)) S
  | false=>false
 | none=>false
def aAM (t:TypeId) (v:Value) (S:St) (K:VK):Bool:=
 pM v fun cs=>zB S (.cells cs t .exact) fun i S=>K (.pointer (some ⟨i,0,none⟩)) S
def xJ (t:TypeId) (len cap:Value) (S:St) (K:VK):Bool:=
 match len,cap with
 | .int _ (.ofNat l),.int _ (.ofNat c)=>
  match isSlice P t with
  | some elem=>match P.info? elem,wM P elem with
   | some info,some zero=>match Nat.ble l c,Nat.ble (info.bytes*c) 1099511627776,Nat.ble c 1099511627776,Nat.beq zero.length info.size,info.size with
    | true,true,true,true,_+1=>match xH bW zero with
     | true=>match Nat.ble c 65536 with
      | true=>aAL zero c fun cs=>zB S (.cells cs elem .exact) fun i S=>K (.slice (some ⟨i,0,none⟩) l c) S
      | false=>zB S .dead fun i S=>K (.slice (some ⟨i,0,none⟩) l c) S
     | false=>false
    | _,_,_,_,_=>false
   | _,_=>false
  | none=>false
 | _,_=>false
def sA (t:TypeId):Bool:=match P.underlying t with | some (.int _) | some .string | some .bool=>true | _=>false
def wN (t:TypeId) (a b:Value) (k:Bool->Bool):Bool:=
 match P.underlying t with
 | some (.int _)=>match a,b with
  | .int j x,.int l y=>match FM j l with | true=>Bv (eqI x y) k | false=>false
  | _,_=>false
 | some .string=>match a,b with
  | .string x,.string y=>Bv (Nv x.data.toList y.data.toList) k
  | _,_=>false
 | some .bool=>match a,b with
  | .bool x,.bool y=>Bv (x==y) k
  | _,_=>false
 | _=>false
def PQ (fs:List Field) (a b:List Value) (k:Bool->Bool):Bool:=
 gW (β:=List Value->List Value->Bool) (fun _ _=>k true)
  (fun f _ ih a b=>Nt a false fun x a=>Nt b false fun y b=>wN P f.type x y fun e=>match e with | true=>ih a b | false=>k false) fs a b
def xK:Nat->List Field->Bool
 | _,[]=>true
 | i,f::fs=>f.name != "_" &&f.offset==i&&sA P f.type&&xK (i+1) fs
def RN (t:TypeId):Option (List Field):=
 match P.underlying t with
 | some (.struct fs)=>if xK P 0 fs.toList&& !P.stoodInHeld t&& !P.eqGuardType P.depth t then some fs.toList else none
 | _=>none
def pN (t:TypeId) (a b:Value) (k:Bool->Bool):Bool:=
 match a,b with
 | .agg xs,.agg ys=>match RN P t with
  | some fs=>PQ P fs xs.toList ys.toList k
  | none=>false
 | .pointer (some _),.pointer none | .pointer none,.pointer (some _)=>match P.underlying t with | some (.pointer _)=>k false | _=>false
 | .pointer none,.pointer none=>match P.underlying t with | some (.pointer _)=>k true | _=>false
 | .slice (some _) _ _,.slice none _ _ | .slice none _ _,.slice (some _) _ _=>match P.underlying t with | some (.slice _)=>k false | _=>false
 | .slice none _ _,.slice none _ _=>match P.underlying t with | some (.slice _)=>k true | _=>false
 | .map (some _),.map none | .map none,.map (some _)=>match P.underlying t with | some (.map _ _)=>k false | _=>false
 | .map none,.map none=>match P.underlying t with | some (.map _ _)=>k true | _=>false
 | .func _ _ _,.nilFunc | .nilFunc,.func _ _ _=>match P.underlying t with | some (.func _ _ _)=>k false | _=>false
 | .nilFunc,.nilFunc=>match P.underlying t with | some (.func _ _ _)=>k true | _=>false
 | .iface _ _,.nilIface | .nilIface,.iface _ _=>match P.underlying t with | some (.interface _)=>k false | _=>false
 | .bool x,.bool y=>match P.underlying t with | some .bool=>Bv (x==y) k | _=>false
 | _,_=>false
def By (op:BinOp) (t:TypeId) (a b:Value) (K:Value->Bool):Bool:=
 match a,b with
 | .int k x,.int k' y=>match op with
  | .shl | .shr=>Bw op k x y K
  | _=>match FM k k' with | true=>RK op k x y K | false=>false
 | .string x,.string y=>Xa op x y K
 | a,b=>match op with
  | .eql=>pN P t a b fun e=>oK e K
  | .neq=>pN P t a b fun e=>oK (!e) K
  | _=>false
def unK (op:UnOp) (a:Value) (K:Value->Bool):Bool:=
 match op,a with
 | .neg,.int k n=>OV k (Int.sub 0 n) K
 | .xor,.int k n=>CZ (k.wrap (BitVec.ofInt k.bits (if k.signed then-1 else k.max) ^^^ BitVec.ofInt k.bits n).toNat) fun n=>K (.int k n)
 | .not,.bool b=>oK (!b) K
 | _,_=>false
def aHw (l:List UInt8) (k:List Value->Bool):Bool:=
 gW (β:=(List Value->Bool)->Bool) (fun k=>k []) (fun b _ ih k=>bV b.toNat fun n=>ih fun t=>k (.int .u8 (.ofNat n)::t)) l k
def aCK (l:List Value) (k:List UInt8->Bool):Bool:=
 gW (β:=(List UInt8->Bool)->Bool) (fun k=>k []) (fun v _ ih k=>match v with | .int .u8 (.ofNat n)=>ih fun t=>k (UInt8.ofNat n::t) | _=>false) l k
def Jn (src dst:TypeId) (x:Value) (S:St) (K:VK):Bool:=
 match x with
 | .int _ n=>match P.underlying src,P.underlying dst with
  | some _,some (.int k)=>OV k n fun v=>K v S
  | _,_=>false
 | .string s=>match P.underlying src,P.underlying dst with
  | some .string,some .string=>K (.string s) S
  | some .string,some (.slice e)=>match P.underlying e,cN P e with
   | some (.int .u8),some 1=>aHw s.data.toList fun l=>KQ l fun n=>zB S (.cells l e (.grown [])) fun i S=>K (.slice (some ⟨i,0,some 0⟩) n n) S
   | _,_=>false
  | _,_=>false
 | .slice none _ _=>match P.underlying src,P.underlying dst with
  | some (.slice e),some .string=>match P.underlying e with
   | some (.int .u8)=>K (.string ⟨⟨[]⟩⟩) S
   | _=>false
  | _,_=>false
 | .slice (some ⟨i,o,sp⟩) len _=>match P.underlying src,P.underlying dst,sp with
  | _,_,some (_+1)=>false
  | some (.slice e),some .string,_=>match P.underlying e with
   | some (.int .u8)=>PM S i o len fun l=>aCK l fun l=>K (.string ⟨⟨l⟩⟩) S
   | _=>false
  | _,_,_=>false
 | _=>false
def Xb (S:St) (m:Value) (k:Option Nat->List MapEntry->Nat->Bool):Bool:=
 match m with
 | .map none=>k none [] 0
 | .map (some r)=>rE S.h r fun o=>match o with | .map es c=>k (some r) es c | _=>false
 | _=>false
def II (t:TypeId) (a b:Value) (k:Bool->Bool):Bool:=
 match a,b with
 | .agg _,.agg _=>pN P t a b k
 | a,b=>wN P t a b k
def Jo (t:TypeId) (key:Value) (es:List MapEntry) (k:Option (Nat×MapEntry)->Bool):Bool:=
 gW (β:=Nat->Bool) (fun _=>k none)
  (fun e _ ih i=>II P t key e.key fun b=>match b with | true=>k (some (i,e)) | false=>bV (Nat.succ i) ih) es 0
def TK (t:TypeId) (key:Value):Bool:=
 match kM key with
 | true=>match sA P t with
  | true=>true
  | false=>match RN P t,key with
   | some fs,.agg cs=>Nat.ble fs.length cs.toList.length
   | _,_=>false
 | false=>false
def IJ (t:TypeId):Option (TypeId×TypeId):=match P.underlying t with | some (.map k e)=>some (k,e) | _=>none
def zeroV (t:TypeId):Option Value:=(P.info? t).bind (·.zero)
def YK (t:TypeId) (x ix:Value) (ok:Bool) (S:St) (K:VK):Bool:=
 match IJ P t with
 | some (kt,et)=>match TK P kt ix,zeroV P et with
  | true,some zero=>Xb S x fun _ es _=>Jo P kt ix es fun r=>
   match r with
   | some (_,e)=>match ok with | true=>K (.tuple ⟨[e.val,.bool true]⟩) S | false=>K e.val S
   | none=>match kM zero with
    | true=>match ok with | true=>K (.tuple ⟨[zero,.bool false]⟩) S | false=>K zero S
    | false=>false
  | _,_=>false
 | none=>false
def FP (t:TypeId) (m key x:Value) (S:St) (k:St->Bool):Bool:=
 match IJ P t with
 | some (kt,_)=>match TK P kt key with
  | true=>Xb S m fun r es c=>match r with
   | some r=>Jo P kt key es fun f=>
    match f with
    | some (i,e)=>match Instr.sameBits 10000 e.key key with
     | true=>aEq {e with val:=x} es i fun es=>sR S r (.map es c) k
     | false=>false
    | none=>FL es [{key:=key,val:=x,born:=c}] fun es=>bV (Nat.succ c) fun c=>sR S r (.map es c) k
   | none=>false
  | false=>false
 | none=>false
def Hv (t:TypeId) (m key:Value) (S:St) (K:VK):Bool:=
 match IJ P t with
 | some (kt,et)=>match TK P kt key,zeroV P et with
  | true,some zero=>Xb S m fun r es c=>match r with
   | some r=>Jo P kt key es fun f=>
    match f with
    | some (_,e)=>match Instr.sameBits 10000 e.key key with
     | true=>K (.tuple ⟨[e.val,.int .i64 (.ofNat e.born)]⟩) S
     | false=>false
    | none=>match kM zero with
     | true=>FL es [{key:=key,val:=zero,born:=c}] fun es=>bV (Nat.succ c) fun c'=>sR S r (.map es c') fun S=>K (.tuple ⟨[zero,.int .i64 (.ofNat c)]⟩) S
     | false=>false
   | none=>false
  | _,_=>false
 | none=>false
def Uw (n:Nat) (es:List MapEntry) (k:Nat->MapEntry->Bool):Bool:=
 gW (β:=Nat->Bool) (fun _=>false) (fun e _ ih i=>match Nat.beq e.born n with | true=>k i e | false=>bV (Nat.succ i) ih) es 0
def VU (m s x:Value) (S:St) (k:St->Bool):Bool:=
 match s with
 | .int _ (.ofNat n)=>Xb S m fun r es c=>match r with
  | some r=>Uw n es fun i e=>aEq {e with val:=x} es i fun es=>sR S r (.map es c) k
  | none=>false
 | _=>false
def aHx{α:Type} (l:List α) (i:Nat) (k:List α->Bool):Bool:=
 gW (β:=Nat->(List α->Bool)->Bool) (fun _ k=>k []) (fun a t ih i k=>pL i (k t) fun p=>ih p fun t'=>k (a::t')) l i k
def Xc (argTypes:List TypeId) (m key:Value) (S:St) (k:St->Bool):Bool:=
 match argTypes with
 | t::_=>match IJ P t with
  | some (kt,_)=>match TK P kt key with
   | true=>Xb S m fun r es c=>match r with
    | none=>k S
    | some r=>Jo P kt key es fun f=>match f with
     | some (i,_)=>aHx es i fun es=>sR S r (.map es c) k
     | none=>k S
   | false=>false
  | none=>false
 | []=>false
def aK6 (n:Nat) (l:List Nat):Bool:=gW (β:=Bool) false (fun m _ ih=>fX (Nat.beq m n) true ih) l
def aAN (seen:List Nat) (es:List MapEntry) (k:List MapEntry->Bool):Bool:=
 gW (β:=(List MapEntry->Bool)->Bool) (fun k=>k []) (fun e _ ih k=>fX (aK6 e.born seen) (ih k) (ih fun t=>k (e::t))) es k
def Do (t:TypeId) (x:Value) (S:St) (K:VK):Bool:=
 match IJ P t with
 | some _=>match x with
  | .map none=>zB S (.iter none 0 [] 0) fun i S=>K (.pointer (some ⟨i,0,none⟩)) S
  | .map (some r)=>rE S.h r fun o=>match o with
   | .map _ c=>zB S (.iter (some r) c [] c) fun i S=>K (.pointer (some ⟨i,0,none⟩)) S
   | _=>false
  | _=>false
 | none=>false
def aEt (it:Value) (S:St) (K:VK):Bool:=
 match it with
 | .pointer (some ⟨i,0,none⟩)=>rE S.h i fun o=>match o with
  | .iter none _ _ _=>K (.tuple ⟨[.bool false]⟩) S
  | .iter (some r) since seen last=>rE S.h r fun o=>match o with
   | .map es c=>match xH (fun e=>Nat.blt e.born since) es,Nat.ble since last with
    | true,true=>aAN seen es fun l=>match l with
     | []=>K (.tuple ⟨[.bool false]⟩) S
     | e::t=>xH (fun e=>FL seen [e.born] fun seen=>sR S i (.iter (some r) since seen c) fun S=>K (.tuple ⟨[.bool true,e.key,e.val]⟩) S) (e::t)
    | _,_=>false
   | _=>false
  | _=>false
 | _=>false
def aAO (l:List Nat) (k:Nat->Bool):Bool:=gW (β:=Bool) false (fun n t ih=>match t with | []=>k n | _=>ih) l
def Xd (it:Value) (S:St) (K:VK):Bool:=
 match it with
 | .pointer (some ⟨i,0,none⟩)=>rE S.h i fun o=>match o with
  | .iter (some r) _ seen last=>rE S.h r fun o=>match o with
   | .map es c=>match Nat.beq c last with
    | true=>aAO seen fun b=>Uw b es fun _ e=>K (.tuple ⟨[e.key,e.val]⟩) S
    | false=>false
   | _=>false
  | _=>false
 | _=>false
def ZY (big:Bool) (l:List Value) (j:IntKind) (x:Int) (K:Value->Bool):Bool:=
 gW (β:=Int->Bool) (fun x=>K (.int j x)) (fun v _ ih x=>match v with
  | .int _ y=>fX (fX big (ltI x y) (ltI y x)) (ih y) (ih x)
  | _=>false) l x
def OW (S:St) (size n:Nat) (x:Value) (k:List Value->Bool):Bool:=
 match x with
 | .slice none _ _=>match n with | 0=>k [] | _=>false
 | .slice (some ⟨i,o,sp⟩) _ _=>match n with
  | 0=>k []
  | n+1=>match sp with
   | some (_+1)=>false
   | _=>PM S i o ((n+1)*size) k
 | .string s=>match size with
  | 1=>VO n s.data.toList fun l=>aHw l k
  | _=>false
 | _=>false
def TL (x:Value) (k:Nat->Bool):Bool:=
 match x with
 | .slice _ n _=>k n
 | .string s=>KQ s.data.toList k
 | _=>false
def TM (elem:TypeId) (old new:List Value) (n:Nat) (from_:Option (Nat×List Value×TypeId×List Nat)) (S:St) (K:VK):Bool:=
 FL old new fun cs=>
  match from_ with
  | none=>zB S (.cells cs elem (.grown [])) fun i S=>K (.slice (some ⟨i,0,some 0⟩) n n) S
  | some (b,vs,e,olds)=>sR S b (.cells vs e .uB) fun S=>zB S (.cells cs elem (.grown (b::olds))) fun i S=>K (.slice (some ⟨i,0,some 0⟩) n n) S
def Sw:Option TypeDesc->Bool
 | some (.slice _) | some .string=>true
 | _=>false
def Sx:Option Nat->Bool
 | none | some 0=>true
 | _=>false
def Hw (size:Nat) (new:List Value) (base:Option Addr) (sLen sCap tY:Nat) (S:St) (K:VK):Bool:=
 match base with
 | some ⟨b,o,sp⟩=>match Sx sp,xH kR new with
  | true,true=>bV (o+sLen*size) fun at_=>uP S b at_ new fun S=>K (.slice (some ⟨b,o,sp⟩) tY sCap) S
  | _,_=>false
 | none=>false
def Dp (elem:TypeId) (size:Nat) (new:List Value) (base:Option Addr) (sLen tY:Nat) (S:St) (K:VK):Bool:=
 match base with
 | none=>match sLen with | 0=>TM elem [] new tY none S K | _=>false
 | some ⟨b,o,none⟩=>PM S b o (sLen*size) fun old=>TM elem old new tY none S K
 | some ⟨b,o,some 0⟩=>DA S b fun vs e c=>KQ vs fun m=>match Nat.beq (o+sLen*size) m,c,cN P e with
  | true,.grown olds,some q=>match Nat.beq q size,xH kR new,Nat.beq e elem with
   | true,true,true=>PM S b o (sLen*size) fun old=>TM elem old new tY (some (b,vs,e,olds)) S K
   | _,_,_=>false
  | _,_,_=>false
 | _=>false
def RO (argTypes:List TypeId) (s x:Value) (S:St) (K:VK):Bool:=
 match argTypes with
 | sT::xT::_=>
  match isSlice P sT,Sw (P.underlying xT)with
  | some elem,true=>match P.info? elem with
   | some info=>match info.size,info.zero,s with
    | size+1,some z,.slice base sLen sCap=>match Nat.beq z.cells.size (size+1)with
     | true=>TL x fun n=>
      match n with
      | 0=>match Nat.ble sLen sCap with | true=>K (.slice base sLen sCap) S | false=>false
      | n'+1=>OW S (size+1) (n'+1) x fun new=>bV (sLen+(n'+1)) fun tY=>
       match Dn tY info.bytes with
       | true=>match Nat.ble tY sCap with
        | true=>Hw (size+1) new base sLen sCap tY S K
        | false=>Dp P elem (size+1) new base sLen tY S K
       | false=>false
     | false=>false
    | _,_,_=>false
   | none=>false
  | _,_=>false
 | _=>false
def Ux (argTypes:List TypeId) (dst src:Value) (S:St) (K:VK):Bool:=
 match argTypes with
 | dT::_=>match isSlice P dT with
  | some elem=>match cN P elem,dst with
   | some (size+1),.slice base aNH _=>TL src fun m=>bV (Nat.min m aNH) fun n=>
    match n with
    | 0=>K (.int .i64 (.ofNat 0)) S
    | n'+1=>OW S (size+1) (n'+1) src fun cs=>match base with
     | some ⟨i,o,sp⟩=>match Sx sp,xH kR cs with
      | true,true=>uP S i o cs fun S=>K (.int .i64 (.ofNat (n'+1))) S
      | _,_=>false
     | none=>false
   | _,_=>false
  | none=>false
 | []=>false
def oL (b:Builtin) (argTypes:List TypeId) (args:List Value) (S:St) (K:VK):Bool:=
 match b,args with
 | .len,[x]=>match argTypes with
  | t::_=>match x with
   | .slice _ n _=>match isSlice P t with | some _=>K (.int .i64 (.ofNat n)) S | none=>false
   | .string s=>match P.underlying t with | some .string=>KQ s.data.toList fun n=>K (.int .i64 (.ofNat n)) S | _=>false
   | .map _=>match IJ P t with | some _=>Xb S x fun _ es _=>KQ es fun n=>K (.int .i64 (.ofNat n)) S | none=>false
   | .agg _=>match P.underlying t with | some (.array n _)=>K (.int .i64 (.ofNat n)) S | _=>false
   | _=>false
  | []=>false
 | .append,[s,x]=>RO P argTypes s x S K
 | .copy,[d,s]=>Ux P argTypes d s S K
 | .delete,[m,k]=>Xc P argTypes m k S fun S=>K (.tuple #[]) S
 | .min,.int j x::l=>ZY false l j x fun v=>K v S
 | .max,.int j x::l=>ZY true l j x fun v=>K v S
 | .cap,[x]=>match argTypes with
  | t::_=>match isSlice P t,x with
   | some _,.slice none _ c=>K (.int .i64 (.ofNat c)) S
   | some _,.slice (some ⟨_,_,none⟩) _ c=>K (.int .i64 (.ofNat c)) S
   | _,_=>false
  | []=>false
 | .clear,[.slice base n _]=>match argTypes with
  | t::_=>match isSlice P t with
   | some elem=>match cN P elem,wM P elem with
    | some size,some zero=>match base,n with
     | none,_=>K (.tuple #[]) S
     | some _,0=>K (.tuple #[]) S
     | some ⟨i,o,sp⟩,n+1=>match Sx sp,Nat.beq zero.length size,xH bW zero,size with
      | true,true,true,_+1=>aAL zero (n+1) fun cs=>uP S i o cs fun S=>K (.tuple #[]) S
      | _,_,_,_=>false
    | _,_=>false
   | none=>false
  | []=>false
 | _,_=>false
end ops
structure Env where
 P:Program
 ov:FuncId->Option (List Value->St->VK->Bool)
 call:aEs
 round:Nat->List Value->St->VK->Bool
 most:Nat
def KT (P:Program) (t:TypeId) (name:String):Option FuncId:=match P.info? t,P.underlying t with
 | some info,some d=>match info.methods.find? (·.name==name)with
  | some m=>match m.path.toList,m.func with
   | [],some (g,pr)=>match d,pr with
    | .pointer _,true=>some g
    | .pointer _,false=>none
    | _,false=>some g
    | _,true=>none
   | _,_=>none
  | none=>none
 | _,_=>none
def mX (E:Env) (A:bC) (c:Call) (S:St) (K:VK):Bool:=
 VP A c.args.toList fun args=>
  match c.callee with
  | .builtin b=>oL E.P b c.argTypes.toList args S K
  | .value f=>vM A f fun f=>match f with
   | .func (.func g) first captured=>FL first.toList args fun l=>FL l captured.toList fun l=>E.call g l S K
   | .func (.yield l) first captured=>match first.toList,captured.toList with
    | [],[]=>E.round l args S K
    | _,_=>false
   | _=>false
  | .invoke r m=>vM A r fun v=>match v with
   | .iface t x=>match KT E.P t m with
    | some g=>E.call g (x::args) S K
    | none=>false
   | _=>false
def Bz (A:bC) (x:Option Operand) (k:Option Value->Bool):Bool:=
 match x with
 | none=>k none
 | some x=>vM A x fun v=>k (some v)
def AD (E:Env) (o:Oper) (A:bC) (S:St) (K:VK):Bool:=
 match o.op with
 | .move x | .assign x=>vM A x fun v=>K v S
 | .pick c a b=>vM A c fun c=>vM A a fun a=>vM A b fun b=>match c with
  | .bool true=>K a S
  | .bool false=>K b S
  | _=>false
 | .alloc t=>VT E.P t S K
 | .box t x=>vM A x fun v=>aAM t v S K
 | .build t ps=>Nx E.P A t ps.toList fun v=>K v S
 | .buildSlice t n ps=>BY E.P A t n ps.toList S K
 | .load t a=>vM A a fun a=>PO E.P t a S K
 | .store t a x=>vM A a fun a=>vM A x fun x=>Bx E.P t a x S fun S=>K undef S
 | .nilCheck x=>vM A x fun v=>match v with
  | .pointer (some a)=>K (.pointer (some a)) S
  | .func (.func f) a b=>K (.func (.func f) a b) S
  | .func (.yield f) a b=>K (.func (.yield f) a b) S
  | .func (.method s) ⟨[.iface t w]⟩ ⟨[]⟩=>match KT E.P t s with
   | some _=>K (.func (.method s) ⟨[.iface t w]⟩ ⟨[]⟩) S
   | none=>false
  | .iface t w=>K (.iface t w) S
  | _=>false
 | .binOp op t x y _=>vM A x fun a=>vM A y fun b=>By E.P op t a b fun v=>K v S
 | .unOp op _ x=>vM A x fun a=>unK op a fun v=>K v S
 | .convert s d x=>vM A x fun a=>Jn E.P s d a S K
 | .makeInterface t x=>vM A x fun v=>match E.P.underlying t with
  | some (.interface _)=>false
  | some _=>K (.iface t v) S
  | none=>false
 | .makeFunc fn first cap=>match fn with
  | .func f=>VP A first.toList fun a=>VP A cap.toList fun b=>K (.func (.func f) ⟨a⟩ ⟨b⟩) S
  | .method s=>match first.toList,cap.toList with
   | [x],[]=>vM A x fun v=>K (.func (.method s) ⟨[v]⟩ ⟨[]⟩) S
   | _,_=>false
  | _=>false
 | .makeMap _ none=>zB S (.map [] 0) fun i S=>K (.map (some i)) S
 | .makeMap t (some r)=>vM A r fun r=>match r,IJ E.P t with
  | .int _ _,some _=>zB S (.map [] 0) fun i S=>K (.map (some i)) S
  | _,_=>false
 | .range t x=>vM A x fun x=>Do E.P t x S K
 | .next it s=>vM A it fun it=>match s with | true=>false | false=>aEt it S K
 | .entry it=>vM A it fun it=>Xd it S K
 | .typeAssert x _ as ok=>vM A x fun v=>match v,E.P.underlying as with
  | .iface _ _,some (.interface _)=>false
  | .iface t w,some _=>match Nat.beq t as,ok with
   | true,true=>K (.tuple ⟨[w,.bool true]⟩) S
   | true,false=>K w S
   | false,_=>false
  | _,_=>false
 | .makeSlice t l c=>vM A l fun l=>vM A c fun c=>xJ E.P t l c S K
 | .slice t x lo hi mx=>match mx,hi with
  | some _,none=>false
  | _,_=>vM A x fun x=>Bz A lo fun lo=>Bz A hi fun hi=>Bz A mx fun mx=>uQ E.P t x lo hi mx S fun v=>K v S
 | .fieldAddr s x f=>vM A x fun x=>FO E.P s x f fun v=>K v S
 | .field t x f=>vM A x fun x=>VQ E.P t x f fun v=>K v S
 | .indexAddr t x ix=>vM A x fun x=>vM A ix fun ix=>FN E.P t x ix fun v=>K v S
 | .index t x ix=>vM A x fun x=>vM A ix fun ix=>Hu E.P t x ix fun v=>K v S
 | .lookup t x ix ok=>vM A x fun x=>vM A ix fun ix=>YK E.P t x ix ok S K
 | .mapUpdate t m k x | .insert t m k x=>vM A m fun m=>vM A k fun k=>vM A x fun x=>FP E.P t m k x S fun S=>K undef S
 | .mapEntry t m k=>vM A m fun m=>vM A k fun k=>Hv E.P t m k S K
 | .entryStore _ m s x=>vM A m fun m=>vM A s fun s=>vM A x fun x=>VU m s x S fun S=>K undef S
 | .extract t i=>vM A t fun v=>match v with
  | .tuple vs=>ZG vs.toList i fun v=>K v S
  | _=>false
 | .call c=>mX E A c S K
 | _=>false
def DC (ops:Array Oper) (o:Oper) (A:bC) (k:Bool->Bool):Bool:=
 match o.guard with
 | none=>k true
 | some (j,want)=>match ops[j]? with
  | some o'=>match o'.dst with
   | some d=>YJ A.tmps d fun v=>match v with
    | .bool b=>match b,want with | true,true | false,false=>k true | _,_=>k false
    | _=>k false
   | none=>k false
  | none=>k false
def Ca (E:Env) (ops:Array Oper) (o:Oper) (A:bC) (S:St) (k:bC->St->Bool):Bool:=
 DC ops o A fun b=>fX b (AD E o A S fun v S=>mJ A o.dst v fun A=>k A S) (mJ A o.dst undef fun A=>k A S)
def ZH (E:Env) (ops:Array Oper) (l:List Oper) (A:bC) (S:St) (k:bC->St->Bool):Bool:=
 gW (β:=bC->St->Bool) (fun A S=>k A S) (fun o _ ih A S=>Ca E ops o A S ih) l A S
abbrev Cb:=yS->bC->St->Bool
def aEu (body:bC->St->Cb->Bool) (most:Nat) (A:bC) (S:St) (K:Cb):Bool:=
 MZ (β:=bC->St->Bool) (fun _ _=>false) (fun _ ih A S=>body A S fun e A S=>match e with | .normal=>ih A S | e=>K e A S) most A S
def Cc (E:Env) (r:Option Nat) (f:Operand) (params:Array Tmp) (assign body:Code) (A:bC) (S:St) (K:Cb):Bool:=
 vM A f fun f=>match f with
  | .func (.func g) first captured=>
   let go (A:bC) (S:St):Bool:=zB S (.loop A.tmps params.toList assign body .ready none) fun l S=>
    FL first.toList [.func (.yield l) #[] #[]] fun as=>FL as captured.toList fun as=>E.call g as S fun _ S=>
     rE S.h l fun o=>match o with
      | .loop tm ps as bo st pe=>match st with
       | .busy=>false
       | _=>sR S l (.loop tm ps as bo .exhausted pe) fun S=>match pe with
        | none=>K .normal A S
        | some .ret=>K .ret A S
        | some (.exit id)=>K (.exit id) A S
        | _=>false
      | _=>false
   match r with
   | some l=>rE S.h l fun o=>match o with | .loop _ _ _ _ _ _=>go A S | _=>false
   | none=>zB S .defers fun d S=>go ⟨A.tmps,d::A.marks,A.g⟩ S
  | _=>false
def xL (E:Env) (dr:Array Oper->bC->St->(bC->St->Bool)->Bool) (r:Option Nat) (c:Code):bC->St->Cb->Bool:=
 aPQ (β:=bC->St->Cb->Bool)
  (fun A S K=>K .normal A S)
  (fun ops draw A S K=>fX draw (dr ops A S fun A S=>K .normal A S) (ZH E ops ops.toList A S fun A S=>K .normal A S))
  (fun ha hb A S K=>ha A S fun e A S=>match e with | .normal=>hb A S K | e=>K e A S)
  (fun c ha hb A S K=>vM A c fun v=>match v with | .bool b=>fX b (ha A S K) (hb A S K) | _=>false)
  (fun id h A S K=>h A S fun e A S=>match e with
   | .exit i=>match Nat.beq i id with | true=>K .normal A S | false=>K (.exit i) A S
   | e=>K e A S)
  (fun h A S K=>aEu h E.most A S K)
  (fun h A S K=>h A S K)
  (fun f params assign body A S K=>Cc E r f params assign body A S K)
  (fun id A S K=>K (.exit id) A S)
  (fun A S K=>K .normal A S)
  (fun A S K=>K .ret A S)
  (fun _ _ _=>false) c
def OX (l:List Nat) (S:St) (k:St->Bool):Bool:=
 gW (β:=St->Bool) (fun S=>k S) (fun d _ ih S=>rE S.h d fun o=>match o with | .defers=>sR S d .dead ih | _=>false) l S
def sZ (P:Program) (rs:List ResultVar) (A:bC) (S:St) (k:List Value->Bool):Bool:=
 gW (β:=(List Value->Bool)->Bool) (fun k=>k []) (fun x _ ih k=>match x with
  | .tmp t=>YJ A.tmps t fun v=>ih fun vs=>k (v::vs)
  | .cell a t=>YJ A.tmps a fun a=>PO P t a S fun v _=>ih fun vs=>k (v::vs)) rs k
def Cd (E:Env) (dr:Array Oper->bC->St->(bC->St->Bool)->Bool) (f:FuncId) (args:List Value) (S:St) (K:VK):Bool:=
 match E.P.funcs[f]? with
 | some fn=>match fn.body with
  | some c=>bV fn.ntmps fun n=>aEr n args fun ts=>xL E dr none c ⟨ts,[],E.P.globals.size⟩ S fun e A S=>
   match e with
   | .exit _=>false
   | _=>OX A.marks S fun S=>sZ E.P fn.results.toList A S fun vs=>match vs with | [v]=>K v S | vs=>K (.tuple ⟨vs⟩) S
  | none=>false
 | none=>false
def Hx (E:Env) (dr:Array Oper->bC->St->(bC->St->Bool)->Bool) (l:Nat) (args:List Value) (S:St) (K:VK):Bool:=
 rE S.h l fun o=>match o with
  | .loop tmps params assign body _ _=>
   let laid:List Tmp->List Value->Tm->(Tm->Bool)->Bool:=fun ps=>gW (β:=List Value->Tm->(Tm->Bool)->Bool)
    (fun as ts k=>match as with | []=>k ts | _=>false) (fun p _ ih as ts k=>match as with | a::as=>uC a ts p fun ts=>ih as ts k | []=>false) ps
   laid params args tmps fun ts=>xL E dr (some l) assign ⟨ts,[],E.P.globals.size⟩ S fun e A S=>match e with
    | .normal=>rE S.h l fun o=>match o with
     | .loop tm ps as bo .ready pe=>sR S l (.loop tm ps as bo .busy pe) fun S=>xL E dr (some l) body A S fun e _ S=>
      rE S.h l fun o=>match o with
       | .loop tm ps as bo _ _=>match e with
        | .normal=>sR S l (.loop tm ps as bo .ready none) fun S=>K (.bool true) S
        | .ret=>sR S l (.loop tm ps as bo .done (some .ret)) fun S=>K (.bool false) S
        | .exit id=>sR S l (.loop tm ps as bo .done (some (.exit id))) fun S=>K (.bool false) S
       | _=>false
     | _=>false
    | _=>false
  | _=>false
def env (P:Program) (ov:FuncId->Option (List Value->St->VK->Bool)) (dr:Env->Array Oper->bC->St->(bC->St->Bool)->Bool) (most:Nat) (n:Nat):Env:=
 MZ (β:=Env) {P,ov,call:=fun _ _ _ _=>false,round:=fun _ _ _ _=>false,most}
  (fun _ E=>{P,ov,call:=fun f args S K=>match ov f with | some g=>g args S K | none=>Cd E (dr E) f args S K,round:=fun l args S K=>Hx E (dr E) l args S K,most}) n
section comb
variable{α β:Type}
theorem KY (z:β) (s:Nat->β):pL 0 z s=z:=rfl
theorem Oo (n:Nat) (z:β) (s:Nat->β):pL (n+1) z s=s n:=rfl
theorem vP (z:β) (s:α->List α->β->β):gW z s []=z:=rfl
theorem bU (a:α) (l:List α) (z:β) (s:α->List α->β->β):gW z s (a::l)=s a l (gW z s l):=rfl
theorem Vd (z:β) (s:Nat->β->β):MZ z s 0=z:=rfl
theorem aF1 (n:Nat) (z:β) (s:Nat->β->β):MZ z s (n+1)=s n (MZ z s n):=rfl
theorem bK (n:Nat) (k:Nat->Bool):bV n k=k n:=by cases n<;>rfl
theorem nU (n:Int) (k:Int->Bool):CZ n k=k n:=by cases n<;>simp [CZ,aM8,bK]
theorem pH (b:Bool) (k:Bool->Bool):Bv b k=k b:=by cases b<;>rfl
theorem mZ (t:Tr α) (n:Nat) (k:α->Bool):rE t n k=match t.get n with | some x=>k x | none=>false:=by
 induction t generalizing n with
 | leaf=>rfl
 | node v l r ihl ihr=>
  cases n with
  | zero=>cases v<;>rfl
  | succ p=>
   have hd:rE (.node v l r) (p+1) k=(pL (Nat.mod p 2) (rE l (Nat.div p 2) k) fun _=>rE r (Nat.div p 2) k):=rfl;rw [hd];have hm:p%2=0\/p%2=1:=by omega
   rcases hm with hm | hm
   ·have:Nat.mod p 2=0:=hm
    rw [this,KY,ihl];have e1:(p+1) / 2=Nat.div p 2:=by show _=p / 2;omega
    simp only [Tr.get,OR,OT,and_false,if_false,show(p+1)%2=1 by omega,if_true,e1]
   ·have:Nat.mod p 2=1:=hm
    rw [this];show rE r (Nat.div p 2) k=_;rw [ihr];have e1:(p+1) / 2-1=Nat.div p 2:=by show _=p / 2;omega
    simp only [Tr.get,OR,OT,and_false,if_false,show ¬(p+1)%2=1 by omega,e1]
theorem RZ (x:α):∀(f:Nat) (t:Tr α) (n:Nat) (k:Tr α->Bool),ZF x f t n k=k (Tr.JS x f t n):=by
 intro f;induction f with
 | zero=>intro t n k;rfl
 | succ f ih=>
  intro t n k
  have hs:ZF x (f+1) t n k=aEp t
   (pL n (k (.node (some x) .leaf .leaf)) fun p=>pL (Nat.mod p 2) (ZF x f .leaf (Nat.div p 2) fun c=>k (.node none c .leaf)) fun _=>ZF x f .leaf (Nat.div p 2) fun c=>k (.node none .leaf c))
   (fun v l r=>pL n (k (.node (some x) l r)) fun p=>pL (Nat.mod p 2) (ZF x f l (Nat.div p 2) fun c=>k (.node v c r)) fun _=>ZF x f r (Nat.div p 2) fun c=>k (.node v l c)):=rfl
  rw [hs];cases t with
  | leaf=>
   cases n with
   | zero=>simp [aEp,Tr.JS,KY]
   | succ p=>
    show(pL (Nat.mod p 2) _ fun _=>_)=_;have hm:p%2=0\/p%2=1:=by omega
    rcases hm with hm | hm
    ·have h0:Nat.mod p 2=0:=hm
     rw [h0,KY,ih];have e1:(p+1) / 2=Nat.div p 2:=by show _=p / 2;omega
     simp [Tr.JS,show(p+1)%2=1 by omega,e1]
    ·have h0:Nat.mod p 2=0+1:=hm
     rw [h0,Oo,ih];have e1:(p+1) / 2-1=Nat.div p 2:=by show _=p / 2;omega
     simp [Tr.JS,show ¬(p+1)%2=1 by omega,e1]
  | node v l r=>
   cases n with
   | zero=>simp [aEp,Tr.JS,KY]
   | succ p=>
    show(pL (Nat.mod p 2) _ fun _=>_)=_;have hm:p%2=0\/p%2=1:=by omega
    rcases hm with hm | hm
    ·have h0:Nat.mod p 2=0:=hm
     rw [h0,KY,ih];have e1:(p+1) / 2=Nat.div p 2:=by show _=p / 2;omega
     simp [Tr.JS,show(p+1)%2=1 by omega,e1]
    ·have h0:Nat.mod p 2=0+1:=hm
     rw [h0,Oo,ih];have e1:(p+1) / 2-1=Nat.div p 2:=by show _=p / 2;omega
     simp [Tr.JS,show ¬(p+1)%2=1 by omega,e1]
theorem Oq (x:α):∀(f:Nat) (t:Tr α) (n m:Nat),n<f->(Tr.JS x f t n).get m=if m=n then some x else t.get m:=by
 intro f;induction f with
 | zero=>intro t n m h;omega
 | succ f ih=>
  intro t n m h;have hl:∀m,(Tr.leaf:Tr α).get m=none:=fun m=>rfl;cases t with
  | leaf=>
   simp only [Tr.JS];by_cases h0:n=0
   ·subst h0
    by_cases hm:m=0<;>simp [Tr.get,hm]
   ·by_cases h1:n%2=1
    ·simp only [h0,h1,if_true,if_false,Tr.get]
     by_cases hm:m=0
     ·subst hm;simp [aO h0]
     ·by_cases h2:m%2=1
      ·rw [aG hm,aJ h2,ih _ _ _ (by omega)]
       by_cases e:m=n
       ·subst e;simp
       ·rw [aG e,aG (by omega),hl]
      ·rw [aG hm,aG h2,aG (by omega)]
    ·simp only [h0,h1,if_false,Tr.get]
     by_cases hm:m=0
     ·subst hm;simp [aO h0]
     ·by_cases h2:m%2=1
      ·rw [aG hm,aJ h2,aG (by omega)]
      ·rw [aG hm,aG h2,ih _ _ _ (by omega)]
       by_cases e:m=n
       ·subst e;simp
       ·rw [aG e,aG (by omega),hl]
  | node v l r=>
   simp only [Tr.JS];by_cases h0:n=0
   ·subst h0
    by_cases hm:m=0<;>simp [Tr.get,hm]
   ·by_cases h1:n%2=1
    ·simp only [h0,h1,if_true,if_false,Tr.get]
     by_cases hm:m=0
     ·subst hm;simp [aO h0]
     ·by_cases h2:m%2=1
      ·rw [aG hm,aJ h2,ih _ _ _ (by omega)]
       by_cases e:m=n
       ·subst e;simp
       ·rw [aG e,aG (by omega),aG hm,aJ h2]
      ·rw [aG hm,aG h2,aG (by omega),aG hm,aG h2]
    ·simp only [h0,h1,if_false,Tr.get]
     by_cases hm:m=0
     ·subst hm;simp [aO h0]
     ·by_cases h2:m%2=1
      ·rw [aG hm,aJ h2,aG (by omega),aG hm,aJ h2]
      ·rw [aG hm,aG h2,ih _ _ _ (by omega)]
       by_cases e:m=n
       ·subst e;simp
       ·rw [aG e,aG (by omega),aG hm,aG h2]
theorem AP (t:Tr α) (n:Nat) (x:α) (m:Nat):(t.put n x).get m=if m=n then some x else t.get m:=Oq x _ t n m (xF n)
theorem aLb (l:List α) (i:Nat) (k:α->Bool):ZG l i k=match l[i]? with | some a=>k a | none=>false:=by
 induction l generalizing i with
 | nil=>rfl
 | cons a l ih=>
  cases i with
  | zero=>rfl
  | succ i=>exact(ih i).trans (by simp)
theorem Oh (v:α) (l:List α) (i:Nat) (k:List α->Bool):aEq v l i k=k (l.set i v):=by
 induction l generalizing i k with
 | nil=>rfl
 | cons a l ih=>
  cases i with
  | zero=>rfl
  | succ i=>exact ih i _
theorem aEv (l:List α) (k:List α->Bool):aK5 l k=k l:=by
 induction l generalizing k with
 | nil=>rfl
 | cons a l ih=>exact ih _
theorem nA (l m:List α) (k:List α->Bool):FL l m k=k (l++m):=by
 induction l generalizing k with
 | nil=>rfl
 | cons a l ih=>exact ih _
theorem HF (n:Nat) (l:List α) (k:List α->Bool):VO n l k=if n<=l.length then k (l.take n)else false:=by
 induction n generalizing l k with
 | zero=>simp [VO,Vd]
 | succ n ih=>
  cases l with
  | nil=>rfl
  | cons a l=>
   show VO n l (fun t'=>k (a::t'))=_;rw [ih];simp
theorem DG (n:Nat) (l:List α) (k:List α->Bool):NC n l k=if n<=l.length then k (l.drop n)else false:=by
 induction n generalizing l with
 | zero=>simp [NC,Vd]
 | succ n ih=>
  cases l with
  | nil=>rfl
  | cons a l=>
   show NC n l k=_;rw [ih];simp
def aY (off:Nat) (new l:List α):List α:=l.take off++new++l.drop (off+new.length)
theorem aHH (new l:List α) (k:List α->Bool):aAK new l k=if new.length<=l.length then k (new++l.drop new.length)else false:=by
 induction new generalizing l k with
 | nil=>simp [aAK,vP]
 | cons a new ih=>
  cases l with
  | nil=>rfl
  | cons b l=>
   show aAK new l (fun t'=>k (a::t'))=_;rw [ih];simp
theorem BH (off:Nat) (new l:List α) (k:List α->Bool):sU off new l k=if off+new.length<=l.length then k (aY off new l)else false:=by
 induction off generalizing l k with
 | zero=>
  show aAK new l k=_;rw [aHH];simp [aY]
 | succ off ih=>
  cases l with
  | nil=>show false=_;rw [aG (by simp)]
  | cons b l=>
   show sU off new l (fun t'=>k (b::t'))=_;rw [ih];have:off+1+new.length<=(b::l).length↔off+new.length<=l.length:=by simp;omega
   simp only [this];have e:aY (off+1) new (b::l)=b::aY off new l:=by simp [aY,show off+1+new.length=(off+new.length)+1 by omega]
   rw [e]
theorem GT (off:Nat) (new l:List α) (h:off+new.length<=l.length):(aY off new l).length=l.length:=by simp [aY];omega
theorem sB (off:Nat) (new l:List α) (h:off+new.length<=l.length) (j:Nat):
 (aY off new l)[j]? =if off<=j/\j<off+new.length then new[j-off]? else l[j]? :=by
 unfold aY;by_cases h1:j<off
 ·rw [aG (by omega),BE,gI (by simp;omega),pK,aJ h1]
 ·by_cases h2:j<off+new.length
  ·rw [aJ (by omega),BE,kI (by simp;omega),gI (by simp;omega)]
   congr 1;simp;omega
  ·rw [aG (by omega),kI (by simp;omega),oT]
   congr 1;simp;omega
theorem nT (l:List α) (k:Nat->Bool):KQ l k=k l.length:=by
 have h:∀(l:List α) (n:Nat),gW (β:=Nat->Bool) (fun n=>k n) (fun _ _ ih n=>bV (Nat.succ n) ih) l n=k (n+l.length):=by
  intro l;induction l with
  | nil=>intro n;rfl
  | cons a l ih=>
   intro n;rw [bU,bK,ih]
   congr 1;simp;omega
 unfold KQ;rw [h,eG]
theorem GU (z:List α) (n:Nat) (k:List α->Bool):aAL z n k=k (List.replicate n z).flatten:=by
 have h:∀(n:Nat) (acc:List α),MZ (β:=List α->Bool) (fun acc=>k acc) (fun _ ih acc=>FL z acc ih) n acc=k ((List.replicate n z).flatten++acc):=by
  intro n;induction n with
  | zero=>intro acc;rfl
  | succ n ih=>
   intro acc;rw [aF1,nA,ih]
   have:(List.replicate n z).flatten++(z++acc)=(List.replicate (n+1) z).flatten++acc:=by
    rw [List.replicate_succ',List.flatten_append];simp
   rw [this]
 unfold aAL;rw [h,OU]
theorem mY (f:α->Bool) (l:List α):xH f l=l.all f:=by
 induction l with
 | nil=>rfl
 | cons a l ih=>
  show fX (f a) (xH f l) false=_;cases h:f a<;>simp [fX,h,ih]
theorem aFZ (l:List α) (i:Nat) (k:List α->Bool):aHx l i k=k (l.eraseIdx i):=by
 induction l generalizing i k with
 | nil=>rfl
 | cons a l ih=>
  cases i with
  | zero=>rfl
  | succ i=>exact ih i _
end comb
theorem aAZ (l:List Nat) (h:Tr iW) (k:Tr iW->Bool):Uu l h k=k (l.foldl (fun h i=>h.put i .dead) h):=by
 induction l generalizing h with
 | nil=>rfl
 | cons i l ih=>
  show ZF .dead (Nat.succ i) h i (fun h=>Uu l h k)=_;rw [RZ,ih];rfl
theorem aA0 (l:List Nat) (h:Tr iW) (m:Nat):(l.foldl (fun h i=>h.put i iW.dead) h).get m=if m∈l then some .dead else h.get m:=by
 induction l generalizing h with
 | nil=>simp
 | cons i l ih=>
  rw [Nr,ih,AP];by_cases h1:m∈l
  ·simp [h1]
  ·by_cases h2:m=i
   ·simp [h2]
   ·simp [h1,h2]
def St.set (S:St) (i:Nat) (o:iW):St:=⟨S.h.put i o,S.n⟩
def St.new (S:St) (o:iW):St:=⟨S.h.put S.n o,S.n+1⟩
def St.obj (S:St) (i:Nat):Option iW:=S.h.get i
theorem GV (S:St) (i:Nat) (o:iW) (j:Nat):(S.set i o).obj j=if j=i then some o else S.obj j:=AP _ _ _ _
theorem YN (S:St) (o:iW) (j:Nat):(S.new o).obj j=if j=S.n then some o else S.obj j:=AP _ _ _ _
theorem jB (S:St) (o:iW) (k:Nat->St->Bool):zB S o k=k S.n (S.new o):=by simp [zB,RZ,bK,St.new,Tr.put]
theorem gS (S:St) (i:Nat) (o:iW) (k:St->Bool):sR S i o k=k (S.set i o):=by simp [sR,RZ,St.set,Tr.put]
theorem HI{S:St}{i:Nat}{k:List Value->TypeId->CK->Bool} (h:DA S i k=true):∃vs e c,S.obj i=some (.cells vs e c)/\k vs e c=true:=by
 unfold DA at h;rw [mZ]at h;cases ho:S.h.get i with
 | none=>simp [ho]at h
 | some o=>cases o<;>simp [ho]at h;exact⟨_,_,_,ho,h⟩
theorem FR{S:St}{i off n:Nat}{k:List Value->Bool} (h:PM S i off n k=true):
 ∃vs e c,S.obj i=some (.cells vs e c)/\off+n<=vs.length/\k ((vs.drop off).take n)=true:=by
 obtain⟨vs,e,c,ho,h⟩:=HI h;rw [DG]at h;split at h
 ·rw [HF]at h
  split at h
  ·rename_i h1 h2
   exact⟨vs,e,c,ho,by simp at h2;omega,h⟩
  ·simp at h
 ·simp at h
theorem PT{α:Type}{l:List α}{i:Nat}{k:α->Bool} (h:ZG l i k=true):∃a,l[i]? =some a/\k a=true:=by
 rw [aLb]at h;cases ha:l[i]? with
 | none=>simp [ha]at h
 | some a=>exact⟨a,rfl,by simpa [ha]using h⟩
theorem HJ{T:Tm}{i:Nat}{k:Value->Bool} (h:YJ T i k=true):∃v,T.t.get i=some v/\k v=true:=by
 unfold YJ at h;rw [mZ]at h;cases hx:T.t.get i with
 | none=>rw [hx]at h;cases h
 | some x=>rw [hx]at h;exact⟨x,rfl,h⟩
def Tm.put (T:Tm) (i:Nat) (v:Value):Tm:=⟨T.t.put i v,T.n⟩
theorem FT{v:Value}{T:Tm}{i:Nat}{k:Tm->Bool} (h:uC v T i k=true):i<T.n/\k (T.put i v)=true:=by
 unfold uC at h;split at h
 ·rename_i hb
  rw [RZ]at h;exact⟨cG hb,h⟩
 ·cases h
theorem aHI{A:bC}{x:Operand}{k:Value->Bool} (h:vM A x k=true):
 ∃v,k v=true/\((∃t,x= .tmp t/\A.tmps.t.get t=some v)\/(x= .const v/\kM v=true)\/(∃g,x= .global g/\g<A.g/\v= .pointer (some ⟨g,0,none⟩))\/(∃f,x= .func f/\v= .func (.func f) #[] #[])):=by
 cases x with
 | tmp t=>obtain⟨a,ha,hk⟩:=HJ h;exact⟨a,hk,.inl ⟨t,rfl,ha⟩⟩
 | const v=>
  cases hf:kM v with
  | true=>exact⟨v,by simpa [vM,hf]using h,.inr (.inl ⟨rfl,hf⟩)⟩
  | false=>simp [vM,hf]at h
 | global g=>
  cases hg:Nat.blt g A.g with
  | true=>exact⟨_,by simpa [vM,hg]using h,.inr (.inr (.inl ⟨g,rfl,cG hg,rfl⟩))⟩
  | false=>simp [vM,hg]at h
 | func f=>exact⟨_,h,.inr (.inr (.inr ⟨f,rfl,rfl⟩))⟩
end Go.Am
namespace Go.Am
open Go.RowKit
structure Loc where
 b:Nat
 s:Nat
 e:Nat
 m:Nat
abbrev Rn:=Nat->Option Loc
inductive VR (U:Rn):Value->Value->Prop
 | flat {v:Value} (h:bW v=true):VR U v v
 | ptr {i o:Nat} {L:Loc} (h:U i=some L):VR U (.pointer (some ⟨i,o,none⟩)) (.pointer (some ⟨L.b,L.s+o,none⟩))
 | slice {i o n c:Nat} {L:Loc} (h:U i=some L):VR U (.slice (some ⟨i,o,none⟩) n c) (.slice (some ⟨L.b,L.s+o,none⟩) n c)
 | rF {i o n c c':Nat} {L:Loc} (h:U i=some L) (hc:c<=c') (hn:n<=c) (he:L.s+o+c'*L.m=L.e) (hm:0<L.m):VR U (.slice (some ⟨i,o,some 0⟩) n c) (.slice (some ⟨L.b,L.s+o,none⟩) n c')
 | DD {i c':Nat} {a:Addr}:VR U (.slice (some ⟨i,0,some 1⟩) 0 0) (.slice (some a) 0 c')
 | DF {b o s:Nat} {sp:Option Nat} (hs:sp=match s with | 0=>none | k+1=>some k):VR U (.slice (some ⟨b,o,some (s+2)⟩) 0 0) (.slice (some ⟨b,o,sp⟩) 0 0)
 | map {i:Nat} {L:Loc} (h:U i=some L):VR U (.map (some i)) (.map (some L.b))
 | func {f:FuncId} {a a' c c':Array Value} (ha:a.size=a'.size) (hc:c.size=c'.size) (h1:∀(k:Nat) (v v':Value),a.toList[k]? =some v->a'.toList[k]? =some v'->VR U v v')
  (h2:∀(k:Nat) (v v':Value),c.toList[k]? =some v->c'.toList[k]? =some v'->VR U v v'):VR U (.func (.func f) a c) (.func (.func f) a' c')
 | yield {l:Nat} {L:Loc} (h:U l=some L):VR U (.func (.yield l) #[] #[]) (.func (.yield L.b) #[] #[])
 | KZ {s:String} {v v':Value} (h:VR U v v'):VR U (.func (.method s) ⟨[v]⟩ ⟨[]⟩) (.func (.method s) ⟨[v']⟩ ⟨[]⟩)
 | iface {t:TypeId} {v v':Value} (h:VR U v v'):VR U (.iface t v) (.iface t v')
 | agg {a a':Array Value} (ha:a.size=a'.size) (h1:∀(k:Nat) (v v':Value),a.toList[k]? =some v->a'.toList[k]? =some v'->VR U v v'):VR U (.agg a) (.agg a')
 | tuple {a a':Array Value} (ha:a.size=a'.size) (h1:∀(k:Nat) (v v':Value),a.toList[k]? =some v->a'.toList[k]? =some v'->VR U v v'):VR U (.tuple a) (.tuple a')
def lM (U:Rn) (l l':List Value):Prop:=l.length=l'.length/\∀(k:Nat) (v v':Value),l[k]? =some v->l'[k]? =some v'->VR U v v'
def TRs (U:Rn) (T:Tm) (l':List Value):Prop:=T.n=l'.length/\∀(k:Nat) (v:Value),T.t.get k=some v->∃v',l'[k]? =some v'/\VR U v v'
theorem TRs.get{U:Rn}{T:Tm}{l':List Value} (h:TRs U T l'){k:Nat}{v:Value} (hv:T.t.get k=some v):∃v',l'[k]? =some v'/\VR U v v':=h.2 k v hv
theorem TRs.set{U:Rn}{T:Tm}{l':List Value} (h:TRs U T l'){i:Nat} (hi:i<T.n){v v':Value} (hv:VR U v v'):TRs U (T.put i v) (l'.set i v'):=by
 refine⟨by simpa [Tm.put]using h.1,fun k x hx=>?_⟩;have hx:(T.t.put i v).get k=some x:=hx;rw [AP]at hx;have hl:i<l'.length:=by rw [<-h.1];exact hi
 by_cases e:k=i
 ·subst e
  rw [aJ rfl]at hx;injection hx with hx;subst hx;exact⟨v',by simp [hl],hv⟩
 ·rw [aG e]at hx
  obtain⟨y,hy,hr⟩:=h.2 k x hx;exact⟨y,by rw [IE (aO e)];exact hy,hr⟩
def Ext (U U':Rn):Prop:=∀i L,U i=some L->U' i=some L
theorem Ext.refl (U:Rn):Ext U U:=fun _ _ h=>h
theorem Ext.trans{a b c:Rn} (h:Ext a b) (k:Ext b c):Ext a c:=fun i L e=>k i L (h i L e)
theorem VR.mono{U U':Rn} (he:Ext U U'){v v':Value} (h:VR U v v'):VR U' v v':=by
 induction h with
 | flat h=>exact .flat h
 | ptr h=>exact .ptr (he _ _ h)
 | slice h=>exact .slice (he _ _ h)
 | rF h hc hn hh hm=>exact .rF (he _ _ h) hc hn hh hm
 | DD=>exact .DD
 | DF hs=>exact .DF hs
 | map h=>exact .map (he _ _ h)
 | func ha hc _ _ i1 i2=>exact .func ha hc i1 i2
 | yield h=>exact .yield (he _ _ h)
 | KZ _ ih=>exact .KZ ih
 | iface _ ih=>exact .iface ih
 | agg ha _ ih=>exact .agg ha ih
 | tuple ha _ ih=>exact .tuple ha ih
theorem lM.mono{U U':Rn} (he:Ext U U'){l l':List Value} (h:lM U l l'):lM U' l l':=⟨h.1,fun k v v' a b=>(h.2 k v v' a b).mono he⟩
theorem TRs.mono{U U':Rn} (he:Ext U U'){T:Tm}{l':List Value} (h:TRs U T l'):TRs U' T l':=⟨h.1,fun k v hv=>let⟨v',a,b⟩:=h.2 k v hv;⟨v',a,b.mono he⟩⟩
theorem lM.nil (U:Rn):lM U [] []:=⟨rfl,by simp⟩
theorem lM.cons{U:Rn}{v v':Value}{l l':List Value} (h:VR U v v') (t:lM U l l'):lM U (v::l) (v'::l'):=by
 refine⟨by simp [t.1],fun k x x' a b=>?_⟩;cases k with
 | zero=>simp at a b;subst a b;exact h
 | succ k=>simp at a b;exact t.2 k x x' a b
theorem lM.head{U:Rn}{v v':Value}{l l':List Value} (h:lM U (v::l) (v'::l')):VR U v v':=h.2 0 v v' rfl rfl
theorem lM.tail{U:Rn}{v v':Value}{l l':List Value} (h:lM U (v::l) (v'::l')):lM U l l':=
 ⟨by simpa using h.1,fun k x x' a b=>h.2 (k+1) x x' (by simpa using a) (by simpa using b)⟩
theorem lM.kS{U:Rn}{l':List Value} (h:lM U [] l'):l'=[]:=rY (by simpa using h.1.symm)
theorem lM.dH{U:Rn}{v:Value}{l l':List Value} (h:lM U (v::l) l'):∃v' t',l'=v'::t'/\VR U v v'/\lM U l t':=by
 cases l' with
 | nil=>have:=h.1;simp at this
 | cons v' t'=>exact⟨v',t',rfl,h.head,h.tail⟩
theorem lM.get{U:Rn}{l l':List Value} (h:lM U l l'){k:Nat}{v:Value} (hv:l[k]? =some v):∃v',l'[k]? =some v'/\VR U v v':=by
 have hk:k<l'.length:=by rw [<-h.1];exact(List.getElem?_eq_some_iff.1 hv).1
 exact⟨l'[k],aQ hk,h.2 k v _ hv (aQ hk)⟩
theorem lM.get_none{U:Rn}{l l':List Value} (h:lM U l l'){k:Nat} (hv:l[k]? =none):l'[k]? =none:=by
 rw [List.getElem?_eq_none_iff]at*;rw [<-h.1];exact hv
theorem lM.append{U:Rn}{l l' m m':List Value} (h:lM U l l') (k:lM U m m'):lM U (l++m) (l'++m'):=by
 refine⟨by simp [h.1,k.1],fun j v v' a b=>?_⟩;by_cases hj:j<l.length
 ·rw [gI hj]at a
  rw [gI (by rw [<-h.1];exact hj)]at b;exact h.2 j v v' a b
 ·rw [kI (by omega)]at a
  rw [kI (by rw [<-h.1];omega),<-h.1]at b;exact k.2 _ v v' a b
theorem lM.take{U:Rn}{l l':List Value} (h:lM U l l') (n:Nat):lM U (l.take n) (l'.take n):=by
 refine⟨by simp [h.1],fun j v v' a b=>?_⟩;rw [pK]at a b;split at a
 ·rename_i hj;rw [aJ hj]at b;exact h.2 j v v' a b
 ·simp at a
theorem lM.drop{U:Rn}{l l':List Value} (h:lM U l l') (n:Nat):lM U (l.drop n) (l'.drop n):=by
 refine⟨by simp [h.1],fun j v v' a b=>?_⟩;rw [oT]at a b;exact h.2 _ v v' a b
theorem lM.aY{U:Rn}{l l' n n':List Value} (h:lM U l l') (k:lM U n n') (off:Nat):lM U (aY off n l) (aY off n' l'):=by
 unfold Am.aY;rw [<-k.1];exact((h.take off).append k).append (h.drop _)
theorem lM.flat{U:Rn}{l:List Value} (h:∀v∈l,bW v=true):lM U l l:=
 ⟨rfl,fun k v v' a b=>by rw [a]at b;injection b with b;subst b;exact .flat (h v (CW a))⟩
theorem lM.flatten{U:Rn}{z z':List Value} (h:lM U z z') (n:Nat):lM U (List.replicate n z).flatten (List.replicate n z').flatten:=by
 induction n with
 | zero=>exact .nil U
 | succ n ih=>simp only [IF,OS];exact h.append ih
theorem VR.kM{U:Rn}{v:Value} (h:kM v=true):VR U v v:=by
 cases v<;>first
  | exact .flat h
  | (rename_i cs;exact .agg rfl (lM.flat (U:=U) (List.all_eq_true.1 h)).2)
theorem VR.of_flat{U:Rn}{v v':Value} (h:VR U v v') (hf:bW v=true):v'=v:=by
 cases h<;>first | rfl | simp [bW]at hf
theorem VR.ND{U:Rn}{a:Array Value}{v':Value} (h:VR U (.agg a) v'):∃a',v'= .agg a'/\lM U a.toList a'.toList:=by
 cases h with
 | flat h=>simp [bW]at h
 | agg ha h1=>exact⟨_,rfl,by simpa using ha,h1⟩
theorem VR.PX{U:Rn}{a:Array Value}{v':Value} (h:VR U (.tuple a) v'):∃a',v'= .tuple a'/\lM U a.toList a'.toList:=by
 cases h with
 | flat h=>simp [bW]at h
 | tuple ha h1=>exact⟨_,rfl,by simpa using ha,h1⟩
theorem VR.Xe{U:Rn}{a a':Array Value} (h:lM U a.toList a'.toList):VR U (.agg a) (.agg a'):= .agg (by simpa using h.1) h.2
theorem VR.pO{U:Rn}{a a':Array Value} (h:lM U a.toList a'.toList):VR U (.tuple a) (.tuple a'):= .tuple (by simpa using h.1) h.2
theorem VR.aHB{U:Rn}{v v':Value} (h:VR U v v') (hf:Am.kM v=true):v'=v:=by
 by_cases ha:∃a,v= .agg a
 ·obtain⟨a,rfl⟩:=ha
  obtain⟨a',rfl,hl⟩:=h.ND;have RQ:∀x∈a.toList,bW x=true:=List.all_eq_true.1 hf
  have:a'.toList=a.toList:=by
   apply xE;intro k;cases hk:a.toList[k]? with
   | none=>exact hl.get_none hk
   | some x=>
    obtain⟨x',Mo,hr⟩:=hl.get hk;rw [Mo,hr.of_flat (RQ x (CW hk))]
  rw [Array.toList_inj.1 this]
 ·refine h.of_flat ?_
  cases v<;>first | exact hf | (exact aX ⟨_,rfl⟩ ha)
theorem VR.kR{U:Rn}{v v':Value} (h:VR U v v') (ho:kR v=true):v'.oneCell'=true:=by
 cases h<;>first | rfl | (simp [Am.kR]at ho;done) | (rename_i h;revert ho;cases v<;>simp [Am.kR,Value.oneCell'])
section rel
variable (P:Program) (w0:World)
def Om (n:Nat) (fz:Nat×Nat):Prop:=∀x,x<n->¬(fz.1<=x/\x<fz.2)
def Xv (L:Loc) (cs:Array Value) (n:Nat) (fz:Nat×Nat) (e t:TypeId):CK->Prop
 | .ro=>cN P e=some L.m
 | .rs=>cN P e=some L.m/\∀j,j<n->¬(fz.1<=L.s+j/\L.s+j<fz.2)
 | .exact=>w0.heap.size<=L.b/\L.s=0/\cs.size=n/\Om cs.size fz/\t=e
 | .grown _=>w0.heap.size<=L.b/\Om cs.size fz/\L.e=cs.size/\cN P e=some L.m/\t=e
 | .uB=>w0.heap.size<=L.b/\cN P e=some L.m/\t=e
def VW (U:Rn) (e e':MapEntry):Prop:=e'.key=e.key/\kM e.key=true/\e'.born=e.born/\VR U e.val e'.val
def gR (U:Rn) (l l':List MapEntry):Prop:=l.length=l'.length/\∀(k:Nat) (e e':MapEntry),l[k]? =some e->l'[k]? =some e'->VW U e e'
def IK (U:Rn) (w:World) (i:Nat):iW->Prop
 | .dead=>True
 | .cells vs e k=>∃L cs t fz,U i=some L/\w.heap[L.b]? =some (.cells cs t fz)/\(∀(j:Nat) (v:Value),vs[j]? =some v->∃v',cs[L.s+j]? =some v'/\VR U v v')/\Xv P w0 L cs vs.length fz e t k
 | .map es c=>∃L jO,U i=some L/\w0.heap.size<=L.b/\w.heap[L.b]? =some (.map jO c)/\gR U es jO.toList
 | .loop tmps params assign body st pe=>∃L r,U i=some L/\w0.heap.size<=L.b/\w.heap[L.b]? =some (.loop r)/\r.state=st/\r.pending=pe/\r.params.toList=params/\r.assign=assign/\r.body=body/\TRs U tmps r.tmps.toList
 | .defers=>∃L,U i=some L/\w0.heap.size<=L.b/\w.heap[L.b]? =some (.deferred (some []))
 | .iter none _ _ _=>∃L a b c,(U i=some L/\L.s=0)/\w0.heap.size<=L.b/\w.heap[L.b]? =some (.mapIter none a b c)
 | .iter (some r) since seen last=>∃L M,(U i=some L/\L.s=0)/\w0.heap.size<=L.b/\U r=some M/\w.heap[L.b]? =some (.mapIter (some M.b) since ⟨seen⟩ last)
def iW.BJ:iW->Bool
 | .dead=>true
 | _=>false
def iW.reads:iW->Bool
 | .cells _ _ .ro | .cells _ _ .uB | .cells _ _ .rs=>true
 | _=>false
def iW.olds:iW->List Nat
 | .cells _ _ (.grown l)=>l
 | _=>[]
def aHD (i j:Nat) (a b:iW):Prop:=(a.reads=true/\b.reads=true)\/j∈a.olds\/i∈b.olds
def aAW (U:Rn) (j:Nat) (vs:List Value) (i:Nat) (o:iW):Prop:=
 o= .dead\/∃ws e,o= .cells ws e .uB/\∀L M,U j=some L->U i=some M->M.b=L.b->M.s+ws.length<=L.s+vs.length
structure Rel (U:Rn) (S:St) (w:World):Prop where
 Oi:∀g,g<P.globals.size->∃L,U g=some L/\L.b=g/\L.s=0
 OY:∀i o,S.obj i=some o->IK P w0 U w i o
 dom:∀i,S.n<=i->U i=none
 lt:∀i o,S.obj i=some o->i<S.n
 loc:∀i L,U i=some L->L.b<w.heap.size
 sep:∀i j a b L M,i≠j->S.obj i=some a->S.obj j=some b->a.BJ=false->b.BJ=false->U i=some L->U j=some M->L.b=M.b->aHD i j a b
 old:∀j vs e olds,S.obj j=some (.cells vs e (.grown olds))->∀i∈olds,i<S.n/\∀o,S.obj i=some o->aAW U j vs i o
 base:Below w0.heap.size w0 w
end rel
theorem gR.mono{U U':Rn} (he:Ext U U'){l l':List MapEntry} (h:gR U l l'):gR U' l l':=
 ⟨h.1,fun k e e' a b=>let⟨x,y,z,u⟩:=h.2 k e e' a b;⟨x,y,z,u.mono he⟩⟩
theorem IK.frame{P:Program}{w0:World}{U U':Rn}{w w':World}{i:Nat}{o:iW} (he:Ext U U') (hb:∀L,U i=some L->w'.heap[L.b]? =w.heap[L.b]?) (h:IK P w0 U w i o):IK P w0 U' w' i o:=by
 cases o with
 | dead=>trivial
 | cells vs e k=>
  obtain⟨L,cs,t,fz,h1,h2,h3,h4⟩:=h;exact⟨L,cs,t,fz,he _ _ h1,(hb L h1).trans h2,fun j v hj=>let⟨v',a,b⟩:=h3 j v hj;⟨v',a,b.mono he⟩,h4⟩
 | map es c=>
  obtain⟨L,jO,h1,h2,h3,h4⟩:=h;exact⟨L,jO,he _ _ h1,h2,(hb L h1).trans h3,h4.mono he⟩
 | loop tmps params assign body st pe=>
  obtain⟨L,r,h1,h2,h3,h4,h5,h6,h7,h8,h9⟩:=h;exact⟨L,r,he _ _ h1,h2,(hb L h1).trans h3,h4,h5,h6,h7,h8,h9.mono he⟩
 | defers=>
  obtain⟨L,h1,h2,h3⟩:=h;exact⟨L,he _ _ h1,h2,(hb L h1).trans h3⟩
 | iter m since seen last=>
  cases m with
  | none=>obtain⟨L,a,b,c,h1,h2,h3⟩:=h;exact⟨L,a,b,c,⟨he _ _ h1.1,h1.2⟩,h2,(hb L h1.1).trans h3⟩
  | some r=>obtain⟨L,M,h1,h2,h3,h4⟩:=h;exact⟨L,M,⟨he _ _ h1.1,h1.2⟩,h2,he _ _ h3,(hb L h1.1).trans h4⟩
theorem IK.loc{P:Program}{w0:World}{U:Rn}{w:World}{i:Nat}{o:iW} (h:IK P w0 U w i o) (hd:o.BJ=false):∃L,U i=some L:=by
 cases o with
 | dead=>cases hd
 | cells vs e k=>obtain⟨L,_,_,_,h1,_⟩:=h;exact⟨L,h1⟩
 | map es c=>obtain⟨L,_,h1,_⟩:=h;exact⟨L,h1⟩
 | loop _ _ _ _ _ _=>obtain⟨L,_,h1,_⟩:=h;exact⟨L,h1⟩
 | defers=>obtain⟨L,h1,_⟩:=h;exact⟨L,h1⟩
 | iter m since seen last=>cases m with
  | none=>obtain⟨L,_,_,_,h1,_⟩:=h;exact⟨L,h1.1⟩
  | some r=>obtain⟨L,_,h1,_⟩:=h;exact⟨L,h1.1⟩
def Fr (U:Rn) (w w':World):Prop:=w.heap.size<=w'.heap.size/\∀c,c<w.heap.size->(∀i L,U i=some L->L.b≠c)->w'.heap[c]? =w.heap[c]?
def Nw (U U':Rn) (w:World):Prop:=∀i L,U' i=some L->U i=some L\/w.heap.size<=L.b\/∃j M,U j=some M/\M.b=L.b
structure xM (U:Rn) (w:World) (U':Rn) (w':World):Prop where
 ext:Ext U U'
 fr:Fr U w w'
 nw:Nw U U' w
theorem xM.refl (U:Rn) (w:World):xM U w U w:=⟨.refl U,⟨bR _,fun _ _ _=>rfl⟩,fun _ _ h=> .inl h⟩
theorem xM.trans{U U1 U2:Rn}{w w1 w2:World} (h:xM U w U1 w1) (k:xM U1 w1 U2 w2):xM U w U2 w2:=by
 refine⟨h.ext.trans k.ext,⟨zA h.fr.1 k.fr.1,fun c hc hn=>?_⟩,fun i L hi=>?_⟩
 ·rw [k.fr.2 c (CX hc h.fr.1) (fun i L hi=>?_),h.fr.2 c hc hn]
  rcases h.nw i L hi with h1 | h1 | ⟨j,M,h1,h2⟩
  ·exact hn i L h1
  ·omega
  ·rw [<-h2];exact hn j M h1
 ·rcases k.nw i L hi with h1 | h1 | ⟨j,M,h1,h2⟩
  ·exact h.nw i L h1
  ·exact .inr (.inl (zA h.fr.1 h1))
  ·rcases h.nw j M h1 with h3 | h3 | ⟨q,N,h3,h4⟩
   ·exact .inr (.inr ⟨j,M,h3,h2⟩)
   ·exact .inr (.inl (by omega))
   ·exact .inr (.inr ⟨q,N,h3,by omega⟩)
def Rn.put (U:Rn) (i:Nat) (L:Loc):Rn:=fun j=>if j=i then some L else U j
theorem Rn.RX{U:Rn}{i:Nat}{L:Loc} (h:U i=none):Ext U (U.put i L):=fun j M hj=>by
 unfold Rn.put;by_cases e:j=i
 ·subst e;rw [h]at hj;cases hj
 ·rw [aG e];exact hj
theorem Rn.mK (U:Rn) (i:Nat) (L:Loc):U.put i L i=some L:=aJ rfl
section aK
variable{P:Program}{w0:World}{U:Rn}{S:St}{w:World}
theorem Rel.new (h:Rel P w0 U S w) (o:iW) (ob:Obj) (L:Loc) (hL:L.b=w.heap.size)
 (ho:∀U':Rn,Ext U U'->U' S.n=some L->IK P w0 U' (w.alloc ob) S.n o)
 (hold:∀i∈o.olds,i<S.n/\∀x,S.obj i=some x->x= .dead\/∃ws e,x= .cells ws e .uB):
 Rel P w0 (U.put S.n L) (S.new o) (w.alloc ob)/\xM U w (U.put S.n L) (w.alloc ob):=by
 have TO:=h.dom S.n (bR _);have he:Ext U (U.put S.n L):=Rn.RX TO;have hold:∀k,k<w.heap.size->(w.alloc ob).heap[k]? =w.heap[k]? :=fun k hk=>by show(w.heap.push ob)[k]? =_;rw [Wz,aG (by omega)]
 have hsz:(w.alloc ob).heap.size=w.heap.size+1:=Array.size_push _
 have vO:∀j M,U.put S.n L j=some M->(j=S.n/\M=L)\/(j≠S.n/\U j=some M):=fun j M hj=>by
  unfold Rn.put at hj;by_cases e:j=S.n
  ·rw [aJ e]at hj;injection hj with hj;exact .inl ⟨e,hj.symm⟩
  ·rw [aG e]at hj;exact .inr ⟨e,hj⟩
 have uR:∀j x,(S.new o).obj j=some x->(j=S.n/\x=o)\/(j≠S.n/\S.obj j=some x):=fun j x hx=>by
  rw [YN]at hx;by_cases e:j=S.n
  ·rw [aJ e]at hx;injection hx with hx;exact .inl ⟨e,hx.symm⟩
  ·rw [aG e]at hx;exact .inr ⟨e,hx⟩
 refine⟨⟨fun g hg=>let⟨M,h1,h2⟩:=h.Oi g hg;⟨M,he _ _ h1,h2⟩,fun j x hx=>?_,fun j hj=>?_,fun j x hx=>?_,fun j M hj=>?_,fun i j a b M N Tc ha hb hda hdb hM hN Sz=>?_,fun j vs e olds hj i hi=>?_,?_⟩,he,⟨by omega,fun c hc _=>hold c hc⟩,fun j M hj=>?_⟩
 ·rcases uR j x hx with ⟨e,ex⟩ | ⟨e,hx⟩
  ·subst e ex;exact ho _ he (Rn.mK _ _ _)
  ·exact(h.OY j x hx).frame he fun M hM=>hold _ (h.loc j M hM)
 ·have Xp:S.n+1<=j:=hj
  unfold Rn.put;rw [aG (by omega)];exact h.dom j (by omega)
 ·rcases uR j x hx with ⟨e,_⟩ | ⟨_,hx⟩
  ·subst e;exact xF _
  ·exact rZ (h.lt j x hx)
 ·rcases vO j M hj with ⟨_,e⟩ | ⟨_,hM⟩
  ·subst e;omega
  ·have:=h.loc j M hM;omega
 ·rcases vO i M hM with ⟨ei,eM⟩ | ⟨ei,EU⟩<;>rcases vO j N hN with ⟨ej,eN⟩ | ⟨ej,hN'⟩
  ·omega
  ·have:=h.loc j N hN';rw [eM]at Sz;omega
  ·have:=h.loc i M EU;rw [eN]at Sz;omega
  ·rcases uR i a ha with ⟨e,_⟩ | ⟨_,ha'⟩
   ·exact aX e ei
   ·rcases uR j b hb with ⟨e,_⟩ | ⟨_,TN⟩
    ·exact aX e ej
    ·exact h.sep i j a b M N Tc ha' TN hda hdb EU hN' Sz
 ·rcases uR j _ hj with ⟨e1,e2⟩ | ⟨e1,Xp⟩
  ·subst e1 e2
   obtain⟨h1,h2⟩:=hold i hi;refine⟨rZ h1,fun x hx=>?_⟩;rcases uR i x hx with ⟨e3,_⟩ | ⟨_,Mo⟩
   ·omega
   ·rcases h2 x Mo with h3 | ⟨ws,e',h3⟩
    ·exact .inl h3
    ·refine .inr ⟨ws,e',h3,fun L1 M hL1 hM hb=>?_⟩
     rcases vO _ _ hL1 with ⟨_,e4⟩ | ⟨e4,_⟩
     ·rcases vO _ _ hM with ⟨e5,_⟩ | ⟨_,EU⟩
      ·omega
      ·have:=h.loc i M EU;rw [e4]at hb;omega
     ·exact aX rfl e4
  ·obtain⟨h1,h2⟩:=h.old j vs e olds Xp i hi
   refine⟨rZ h1,fun x hx=>?_⟩;rcases uR i x hx with ⟨e3,_⟩ | ⟨e3,Mo⟩
   ·omega
   ·rcases h2 x Mo with h3 | ⟨ws,e',h3,h4⟩
    ·exact .inl h3
    ·refine .inr ⟨ws,e',h3,fun L1 M hL1 hM hb=>?_⟩
     rcases vO _ _ hL1 with ⟨e4,_⟩ | ⟨_,aN1⟩
     ·exact aX e4 e1
     ·rcases vO _ _ hM with ⟨e5,_⟩ | ⟨_,EU⟩
      ·exact aX e5 e3
      ·exact h4 L1 M aN1 EU hb
 ·exact⟨h.base.os,h.base.tape,h.base.output,by have:=h.base.size;omega,fun k hk=>(hold k (CX hk h.base.size)).trans (h.base.block k hk)⟩
 ·rcases vO j M hj with ⟨_,e⟩ | ⟨_,hM⟩
  ·subst e;exact .inr (.inl (by omega))
  ·exact .inl hM
theorem Rel.drew (h:Rel P w0 U S w):Rel P w0 U S w.drew:=
 ⟨h.Oi,fun i o hi=>(h.OY i o hi).frame (.refl U) fun _ _=>rfl,h.dom,h.lt,h.loc,h.sep,h.old,h.base.os,h.base.tape,h.base.output,h.base.size,h.base.block⟩
theorem xM.drew (U:Rn) (w:World):xM U w U w.drew:=⟨.refl U,⟨bR _,fun _ _ _=>rfl⟩,fun _ _ h=> .inl h⟩
theorem Rel.aK (h:Rel P w0 U S w){S':St}{w':World}{b:Nat} (hb:w0.heap.size<=b) (So:∃i L,U i=some L/\L.b=b) (hn:S'.n=S.n)
 (hsz:w'.heap.size=w.heap.size) (aCT:∀c,c≠b->w'.heap[c]? =w.heap[c]?) (hos:w'.os=w.os) (aP3:w'.tape=w.tape) (aN2:w'.output=w.output)
 (uR:∀j x,S'.obj j=some x->(x.BJ=true/\j<S.n)\/(S.obj j=some x/\∀L,U j=some L->L.b≠b)\/(j<S.n/\IK P w0 U w' j x))
 (aRT:∀i j x y L M,i≠j->S'.obj i=some x->S'.obj j=some y->x.BJ=false->y.BJ=false->U i=some L->U j=some M->L.b=M.b->aHD i j x y)
 (hold:∀j vs e olds,S'.obj j=some (.cells vs e (.grown olds))->∀i∈olds,i<S.n/\∀o,S'.obj i=some o->aAW U j vs i o):
 Rel P w0 U S' w'/\xM U w U w':=by
 refine⟨⟨h.Oi,fun j x hx=>?_,fun j hj=>h.dom j (by omega),fun j x hx=>?_,fun j L hj=>by rw [hsz];exact h.loc j L hj,aRT,fun j vs e olds hj i hi=>by rw [hn];exact hold j vs e olds hj i hi,?_⟩,.refl U,⟨by omega,fun c _ hc=>?_⟩,fun _ _ h=> .inl h⟩
 ·rcases uR j x hx with ⟨hd,_⟩ | ⟨Mo,hL⟩ | ⟨_,hr⟩
  ·cases x<;>simp [iW.BJ]at hd;trivial
  ·exact(h.OY j x Mo).frame (.refl U) fun L hL'=>aCT _ (hL L hL')
  ·exact hr
 ·rw [hn]
  rcases uR j x hx with ⟨_,hl⟩ | ⟨Mo,_⟩ | ⟨hl,_⟩
  ·exact hl
  ·exact h.lt j x Mo
  ·exact hl
 ·exact⟨hos.trans h.base.os,aP3.trans h.base.tape,aN2.trans h.base.output,by have:=h.base.size;omega,fun k hk=>(aCT k (by omega)).trans (h.base.block k hk)⟩
 ·obtain⟨i,L,hi,e⟩:=So
  exact aCT c (fun e'=>hc i L hi (by omega))
end aK
theorem Ie (s:ByteArray):s.toList=s.data.toList:=by
 have h:∀(n i:Nat) (r:List UInt8),s.size-i=n->ByteArray.toList.loop s i r=r.reverse++s.data.toList.drop i:=by
  intro n;induction n with
  | zero=>
   intro i r hn;unfold ByteArray.toList.loop;have:¬i<s.size:=by omega
   rw [aG this,Ww (by show s.data.toList.length<=i;have:s.size=s.data.toList.length:=rfl;omega),OU]
  | succ n ih=>
   intro i r hn;unfold ByteArray.toList.loop;have hi:i<s.size:=by omega
   rw [aJ hi,ih (i+1) _ (by omega)];have hl:i<s.data.toList.length:=hi;rw [lP hl];have e:s.data[i]! =s.data.toList[i]:=by rw [getElem!_pos s.data i hi];rfl
   simp [ByteArray.get!,e]
 have:=h s.size 0 [] (by omega);simpa [ByteArray.toList]using this
section num
variable{K:Value->Bool}
theorem WD (x y:Int):ltI x y=decide (x<y):=by
 cases x<;>cases y<;>simp only [ltI,Nat.blt]<;>(rw [Ns];simp only [decide_eq_true_eq,Nat.ble_eq];(try simp);omega)
theorem RR (x y:Int):eqI x y=(x==y):=by
 cases x<;>cases y<;>simp only [eqI]<;>(rw [Ns];simp only [Nat.beq_eq,beq_iff_eq];(try simp);try omega)
theorem KX{j k:IntKind} (h:FM j k=true):j=k:=by cases j<;>cases k<;>first | rfl | (simp [FM]at h)
theorem Ek (k:IntKind) (n:Int) (h0:k.min<=n) (h1:n<=k.max):k.wrap n=n:=by
 cases k<;>simp [IntKind.min,IntKind.max,IntKind.bits,IntKind.signed]at h0 h1<;>simp [IntKind.wrap,IntKind.bits,IntKind.signed]<;>omega
theorem KW (k:IntKind) (n:Int):sH k n=k.wrap n:=by
 have hb:∀m c:Nat,Nat.blt m c=true->m<c:=fun m c h=>cG h;have e1:IntKind.i64.min= -9223372036854775808:=by decide
 have e2:IntKind.i64.max=9223372036854775807:=by decide
 have e3:IntKind.u64.min=0:=by decide
 have e4:IntKind.u64.max=18446744073709551615:=by decide
 have e5:IntKind.u8.min=0:=by decide
 have e6:IntKind.u8.max=255:=by decide
 cases k
 case i64=>
  cases n with
  | ofNat m=>
   unfold sH;dsimp only;split
   ·rename_i h;have:=hb _ _ h;exact(Ek .i64 (m:Int) (by omega) (by omega)).symm
   ·rfl
  | negSucc m=>
   unfold sH;dsimp only;split
   ·rename_i h;have:=hb _ _ h;exact(Ek .i64 (Int.negSucc m) (by omega) (by omega)).symm
   ·rfl
 case u64=>
  cases n with
  | ofNat m=>
   unfold sH;dsimp only;split
   ·rename_i h;have:=hb _ _ h;exact(Ek .u64 (m:Int) (by omega) (by omega)).symm
   ·rfl
  | negSucc m=>rfl
 case u8=>
  cases n with
  | ofNat m=>
   unfold sH;dsimp only;split
   ·rename_i h;have:=hb _ _ h;exact(Ek .u8 (m:Int) (by omega) (by omega)).symm
   ·rfl
  | negSucc m=>rfl
 all_goals rfl
theorem Yc (k:IntKind) (n:Int):OV k n K=K (.int k (k.wrap n)):=by simp [OV,nU,KW]
theorem rI (b:Bool):oK b K=K (.bool b):=by simp [oK,pH]
theorem Tp{op:BinOp}{k:IntKind}{x y:Int} (h:RK op k x y K=true):
 ∃v,K v=true/\bW v=true/\op≠ .shl/\op≠ .shr/\∀(P:Program) (t:TypeId) (w:World),(binOp op t (.int k x) (.int k y)).run P w= .ok v w:=by
 have ea:∀a b:Int,Int.add a b=a+b:=fun _ _=>rfl;have es:∀a b:Int,Int.sub a b=a-b:=fun _ _=>rfl;have em:∀a b:Int,Int.mul a b=a*b:=fun _ _=>rfl;cases op<;>simp only [RK,Yc,rI,nU,WD,RR,ea,es,em]at h
 case quo=>
  split at h
  ·cases h
  ·rename_i hy
   have hy':y≠0:=by simpa using hy
   exact⟨_,h,rfl,by simp,by simp,fun P t w=>by simp [binOp,Op.intDiv,hy']⟩
 case rem=>
  split at h
  ·cases h
  ·rename_i hy
   have hy':y≠0:=by simpa using hy
   exact⟨_,h,rfl,by simp,by simp,fun P t w=>by simp [binOp,Op.intDiv,hy']⟩
 all_goals first
  | cases h;done
  | exact⟨_,h,rfl,by simp,by simp,fun P t w=>by first | (simp [binOp,Op.intArith,Op.intBits,Op.intCmp,bne];done) | (simp [binOp,Op.intCmp];rw [Ns];simp)⟩
theorem El{op:BinOp}{k k':IntKind}{x y:Int} (h:Bw op k x y K=true):
 ∃v,K v=true/\bW v=true/\∀(P:Program) (t:TypeId) (w:World),(binOp op t (.int k x) (.int k' y)).run P w= .ok v w:=by
 unfold Bw at h;rw [WD]at h;split at h
 ·cases h
 ·rename_i hy
  have hy':¬y<0:=by simpa using hy
  cases op<;>simp only [Yc,nU]at h<;>first
   | cases h;done
   | exact⟨_,h,rfl,fun P t w=>by simp [binOp,Op.shift,hy']⟩
end num
section str
variable{K:Value->Bool}
theorem YO (a b:UInt8):Nat.beq a.toNat b.toNat=true↔a=b:=by
 rw [Nat.beq_eq];exact⟨fun h=>UInt8.toNat_inj.1 h,fun h=>by rw [h]⟩
theorem RT (a b:List UInt8):Nv a b=(a==b):=by
 induction a generalizing b with
 | nil=>cases b<;>rfl
 | cons x a ih=>
  cases b with
  | nil=>rfl
  | cons y b=>
   show(match Nat.beq x.toNat y.toNat with | true=>Nv a b | false=>false)=_;cases h:Nat.beq x.toNat y.toNat with
   | true=>simp only [ih];have:=(YO x y).1 h;subst this;simp
   | false=>
    have:x≠y:=fun e=>by rw [(YO x y).2 e]at h;cases h
    simp [this]
theorem aED (a b:List UInt8):aFW a b=Op.bytesLess a b:=by
 induction a generalizing b with
 | nil=>cases b<;>rfl
 | cons x a ih=>
  cases b with
  | nil=>rfl
  | cons y b=>
   show(match Nat.blt x.toNat y.toNat with | true=>true | false=>match Nat.beq x.toNat y.toNat with | true=>aFW a b | false=>false)=_;simp only [Op.bytesLess];cases h:Nat.blt x.toNat y.toNat with
   | true=>
    have:x<y:=by rw [UInt8.lt_iff_toNat_lt];have:=cG h;omega
    simp [this]
   | false=>
    have:¬x<y:=by
     rw [UInt8.lt_iff_toNat_lt];intro hh;have:Nat.blt x.toNat y.toNat=true:=nJ hh;rw [this]at h;cases h
    cases h2:Nat.beq x.toNat y.toNat with
    | true=>have e:=(YO x y).1 h2;subst e;simp [ih]
    | false=>
     have e:x≠y:=fun e=>by rw [(YO x y).2 e]at h2;cases h2
     simp [this,e]
theorem aGf (a b:ByteArray):a++b=⟨⟨a.data.toList++b.data.toList⟩⟩:=by
 apply ByteArray.ext;apply Array.toList_inj.1;simp
theorem Tq{op:BinOp}{x y:ByteArray} (h:Xa op x y K=true):
 ∃v,K v=true/\bW v=true/\∀(P:Program) (t:TypeId) (w:World),(binOp op t (.string x) (.string y)).run P w= .ok v w:=by
 cases op<;>simp only [Xa,rI,RT,aED]at h
 case add=>
  simp only [nT]at h;split at h
  ·rename_i hb
   rw [nA]at h;have hlt:x.size+y.size<9223372036854775808:=by have:=cG hb;have e1:x.size=x.data.toList.length:=rfl;have e2:y.size=y.data.toList.length:=rfl;omega
   refine⟨_,h,rfl,fun P t w=>?_⟩;simp [binOp,Op.stringOp,aGf];omega
  ·cases h
 all_goals first
  | cases h;done
  | exact⟨_,h,rfl,fun P t w=>by simp [binOp,Op.stringOp,Ie]⟩
end str
theorem rG (b off n:Nat):(⟨b,off,none⟩:Addr).add n=⟨b,off+n,none⟩:=by
 unfold Addr.add;split
 ·rename_i h;subst h;rfl
 ·rfl
section run
variable{P:Program}{w:World}
theorem run_loadCellsFrom (a:Addr):∀(m:List Value) (i:Nat) (acc:Array Value),(∀(j:Nat) (v:Value),m[j]? =some v->w.cell? (a.add (i+j))=some v)->
 (loadCellsFrom a i m.length acc).run P w= .ok (acc++m.toArray) w:=by
 intro m;induction m with
 | nil=>intro i acc _;simp [loadCellsFrom]
 | cons v m ih=>
  intro i acc h;have h0:=h 0 v rfl;rw [VN]at h0
  have h1:=ih (i+1) (acc.push v) fun j x hj=>by
   have:=h (j+1) x (by simpa using hj)
   rwa [show i+(j+1)=i+1+j by omega]at this
  simp [loadCellsFrom,h0,h1]
theorem run_loadCells (a:Addr) (m:List Value){n:Nat} (hn:m.length=n) (h:∀(j:Nat) (v:Value),m[j]? =some v->w.cell? (a.add j)=some v):
 (loadCells a n).run P w= .ok ⟨m⟩ w:=by
 subst hn;have:=run_loadCellsFrom (P:=P) a m 0 #[] (by simpa using h);simpa [loadCells]using this
theorem aBr{b off:Nat}{cs:Array Value}{t:TypeId}{fz:Nat×Nat} (h:w.heap[b]? =some (.cells cs t fz)) (v:Value):
 w.setCell ⟨b,off,none⟩ v=w.putObj b (.cells (cs.setIfInBounds off v) t fz):=by
 unfold World.setCell World.putObj
 congr 1
 apply Array.ext_getElem?;intro k;rw [Array.getElem?_modify,aCJ];by_cases e:b=k
 ·subst e
  obtain⟨hlt,hb⟩:=Array.getElem?_eq_some_iff.1 h;simp [hb,hlt]
 ·simp [e]
theorem Tv (b:Nat) (x y:Obj):(w.putObj b x).putObj b y=w.putObj b y:=by
 unfold World.putObj
 congr 1
 apply Array.ext_getElem?;intro k;simp only [aCJ,Array.size_setIfInBounds];by_cases e:b=k<;>simp [e]
theorem WR{b:Nat}{x:Obj} (h:w.heap[b]? =some x):w.putObj b x=w:=by
 unfold World.putObj
 have:w.heap.setIfInBounds b x=w.heap:=by
  apply Array.ext_getElem?;intro k;rw [aCJ];by_cases e:b=k
  ·subst e
   obtain⟨hlt,hb⟩:=Array.getElem?_eq_some_iff.1 h;simp [hb,hlt]
  ·simp [e]
 rw [this]
theorem RY{b:Nat}{x y:Obj} (h:w.heap[b]? =some y):(w.putObj b x).heap[b]? =some x:=World.putObj_heap_same (Array.getElem?_eq_some_iff.1 h).1
theorem yF{b c:Nat}{x:Obj} (h:c≠b):(w.putObj b x).heap[c]? =w.heap[c]? :=World.putObj_heap_other h
theorem putObj_size (b:Nat) (x:Obj):(w.putObj b x).heap.size=w.heap.size:=by simp [World.putObj]
theorem DJ:∀(new:List Value) (w:World) (b off i:Nat) (cs:Array Value) (t:TypeId) (fz:Nat×Nat),w.heap[b]? =some (.cells cs t fz)->off+i+new.length<=cs.size->
 (∀x,off+i<=x->x<off+i+new.length->¬(fz.1<=x/\x<fz.2))->(∀v∈new,v.oneCell'=true)->
 (storeCells ⟨b,off,none⟩ new i).run P w= .ok () (w.putObj b (.cells ⟨aY (off+i) new cs.toList⟩ t fz)):=by
 intro new;induction new with
 | nil=>
  intro w b off i cs t fz h hs _ _;have e:aY (off+i) [] cs.toList=cs.toList:=by simp [aY]
  rw [e];simp [storeCells,WR h]
 | cons v new ih=>
  intro w b off i cs t fz h hs hfz h1;have hlt:off+i<cs.size:=by simp at hs;omega
  have hc:w.cell? ⟨b,off+i,none⟩=some cs[off+i]:=by simp [World.cell?,h,hlt]
  have hf:w.frozen? ⟨b,off+i,none⟩=false:=by
   have:=hfz (off+i) (bR _) (by simp);simp only [World.frozen?,h];simpa using this
  have fN:(store (⟨b,off+i,none⟩:Addr) v).run P w= .ok () (w.putObj b (.cells (cs.setIfInBounds (off+i) v) t fz)):=by
   rw [run_store P w _ v .plain (h1 v (by simp)),hc,hf,aBr h];rfl
  have hih:=ih (w.putObj b (.cells (cs.setIfInBounds (off+i) v) t fz)) b off (i+1) (cs.setIfInBounds (off+i) v) t fz (RY h)
   (by simp at hs ⊢;omega) (fun x hx hy=>hfz x (by omega) (by simp;omega)) (fun u hu=>h1 u (by simp [hu]))
  have es:aY (off+(i+1)) new (cs.setIfInBounds (off+i) v).toList=aY (off+i) (v::new) cs.toList:=by
   apply xE;intro j;have hl:cs.toList.length=cs.size:=rfl;rw [sB _ _ _ (by simp at hs ⊢;omega),sB _ _ _ (by simp at hs ⊢;omega)];simp only [Bf,oU];by_cases h2:j=off+i
   ·subst h2
    rw [aG (by omega),aJ (by omega),Nat.sub_self];simp [hlt]
   ·by_cases h3:off+(i+1)<=j/\j<off+(i+1)+new.length
    ·rw [aJ h3,aJ (by omega)]
     obtain⟨q,rfl⟩:∃q,j=off+i+(q+1):=⟨j-(off+i+1),by omega⟩;rw [show off+i+(q+1)-(off+(i+1))=q by omega,show off+i+(q+1)-(off+i)=q+1 by omega];simp
    ·rw [aG h3,aG (by omega),IE (by omega)]
  simp only [storeCells,rG];rw [cP,fN,eE,hih,Tv,es]
end run
section mem
variable{P:Program}{w0:World}{U:Rn}{S:St}{w:World}
theorem Rel.cells (h:Rel P w0 U S w){i:Nat}{vs:List Value}{e:TypeId}{k:CK} (ho:S.obj i=some (.cells vs e k)){L:Loc} (hL:U i=some L):
 ∃cs t fz,w.heap[L.b]? =some (.cells cs t fz)/\(∀(j:Nat) (v:Value),vs[j]? =some v->∃v',cs[L.s+j]? =some v'/\VR U v v')/\Xv P w0 L cs vs.length fz e t k:=by
 obtain⟨M,cs,t,fz,h1,h2,h3,h4⟩:=h.OY i _ ho;rw [hL]at h1;injection h1 with h1;subst h1;exact⟨cs,t,fz,h2,h3,h4⟩
theorem cell_of{b:Nat}{cs:Array Value}{t:TypeId}{fz:Nat×Nat} (h:w.heap[b]? =some (.cells cs t fz)){j:Nat}{v:Value} (hj:cs[j]? =some v):w.cell? ⟨b,j,none⟩=some v:=by
 simp [World.cell?,h,hj]
theorem Rel.KG (h:Rel P w0 U S w){i:Nat}{vs:List Value}{e:TypeId}{k:CK} (ho:S.obj i=some (.cells vs e k)){L:Loc} (hL:U i=some L){off n:Nat} (hn:off+n<=vs.length):
 ∃l',lM U ((vs.drop off).take n) l'/\l'.length=n/\∀(j:Nat) (v:Value),l'[j]? =some v->w.cell? ((⟨L.b,L.s+off,none⟩:Addr).add j)=some v:=by
 obtain⟨cs,t,fz,h2,h3,_⟩:=h.cells ho hL;refine⟨(List.range n).map fun j=>cs.getD (L.s+(off+j)) undef,⟨by simp;omega,fun j v v' a b=>?_⟩,by simp,fun j v hj=>?_⟩
 ·rw [pK]at a
  split at a
  ·rename_i hj
   rw [oT]at a;obtain⟨u,hu,hr⟩:=h3 _ v a;simp [hj]at b;have:cs.getD (L.s+(off+j)) undef=u:=by simp [Wu,hu]
   simp [Wu]at this;rw [<-b,this];exact hr
  ·cases a
 ·have Xp:j<n:=by have:=(List.getElem?_eq_some_iff.1 hj).1;simpa using this
  simp [Xp]at hj;have hlt:off+j<vs.length:=by omega
  obtain⟨u,hu,_⟩:=h3 (off+j) vs[off+j] (aQ hlt);rw [rG,show L.s+off+j=L.s+(off+j)by omega];rw [cell_of h2 hu]
  congr 1
  rw [<-hj];simp [hu]
theorem Rel.aH1 (h:Rel P w0 U S w){i:Nat}{vs:List Value}{e:TypeId}{k:CK} (ho:S.obj i=some (.cells vs e k)){L:Loc} (hL:U i=some L){o:Nat}{v:Value} (hv:vs[o]? =some v):
 ∃v',w.cell? ⟨L.b,L.s+o,none⟩=some v'/\VR U v v':=by
 obtain⟨cs,t,fz,h2,h3,_⟩:=h.cells ho hL;obtain⟨u,hu,hr⟩:=h3 o v hv;exact⟨u,cell_of h2 hu,hr⟩
theorem KU{t:TypeId}{b:Bool} (h:xI P t=some b) (w:World):(isAgg t).run P w= .ok b w:=by
 unfold xI at h;cases hu:P.underlying t with
 | none=>simp [hu]at h
 | some d=>
  simp [hu]at h;simp only [isAgg,cP,run_underlying hu,eE];subst h;cases d<;>rfl
theorem jA{t:TypeId}{n:Nat} (h:cN P t=some n) (w:World):(sizeOf t).run P w= .ok n w:=by
 unfold cN at h;cases hu:P.info? t with
 | none=>simp [hu]at h
 | some i=>simp [hu]at h;simp [sizeOf,typeInfo,hu,h]
theorem aHA{t:TypeId}{i:TypeInfo} (h:P.info? t=some i) (w:World):(typeInfo t).run P w= .ok i w:=by simp [typeInfo,h]
theorem FQ{t:TypeId}{z:List Value} (h:wM P t=some z) (w:World):∃v,(zeroValue t).run P w= .ok v w/\v.cells.toList=z:=by
 unfold wM at h;cases hu:P.info? t with
 | none=>simp [hu]at h
 | some i=>
  cases hz:i.zero with
  | none=>simp [hu,hz]at h
  | some v=>simp [hu,hz]at h;exact⟨v,by simp [zeroValue,typeInfo,hu,hz],h⟩
theorem WE (h:Rel P w0 U S w){t:TypeId}{a a':Value}{K:VK} (hk:PO P t a S K=true) (ha:VR U a a'):
 ∃v v',K v S=true/\VR U v v'/\(Instr.loadAt t a').run P w= .ok v' w:=by
 unfold PO at hk;split at hk
 ·rename_i i o
  cases ha with
  | flat h=>simp [bW]at h
  | ptr hL=>
   rename_i L;split at hk
   ·rename_i aCL
    obtain⟨vs,e,c,ho,hk⟩:=HI hk;obtain⟨v,hv,hk⟩:=PT hk;obtain⟨v',hc,hr⟩:=h.aH1 ho hL hv;refine⟨v,v',hk,hr,?_⟩;simp [Instr.loadAt,Instr.sureAddr,loadVar,KU aCL,hc]
   ·rename_i aCL
    split at hk
    ·rename_i n hsz
     obtain⟨vs,e,c,ho,hn,hk⟩:=FR hk;obtain⟨l',hr,hl,hc⟩:=h.KG ho hL hn;refine⟨_,.agg ⟨l'⟩,hk,.Xe hr,?_⟩;simp [Instr.loadAt,Instr.sureAddr,loadVar,KU aCL,jA hsz,run_loadCells _ l' hl hc]
    ·cases hk
   ·cases hk
 ·cases hk
end mem
section mem
variable{P:Program}{w0:World}{U:Rn}{S:St}{w:World}
theorem Vl:∀{new l:List Value},Ht new l=true->(∀v∈new,bW v=true)/\∀(j:Nat) (v:Value),new[j]? =some v->l[j]? =some v:=by
 intro new;induction new with
 | nil=>intro l _;exact⟨by simp,by simp⟩
 | cons a new ih=>
  intro l h;unfold Ht at h;rw [bU]at h;cases l with
  | nil=>cases h
  | cons b t=>
   have h2:(match(generalizing:=false) a,b with
    | .int j x,.int k y=>match FM j k with
     | true=>match eqI x y with | true=>Ht new t | false=>false
     | false=>false
    | _,_=>false)=true:=h
   split at h2
   ·split at h2
    ·rename_i hk
     split at h2
     ·rename_i hx
      have e1:=KX hk;rw [RR]at hx;have e2:=eq_of_beq hx;subst e1 e2;have h:Ht new t=true:=h2;obtain⟨i1,i2⟩:=ih h;refine⟨fun v hv=>?_,fun j v hj=>?_⟩
      ·rcases List.mem_cons.1 hv with e | hv
       ·subst e;rfl
       ·exact i1 v hv
      ·cases j with
       | zero=>simpa using hj
       | succ j=>simpa using i2 j v (by simpa using hj)
     ·cases h2
    ·cases h2
   ·cases h2
theorem DI (h:Rel P w0 U S w){i off:Nat}{new new':List Value}{k:St->Bool} (hk:uP S i off new k=true){L:Loc} (hL:U i=some L)
 (hn:lM U new new') (h1:∀v∈new',v.oneCell'=true):
 ∃S' w',k S'=true/\Rel P w0 U S' w'/\xM U w U w'/\(storeCells ⟨L.b,L.s+off,none⟩ new').run P w= .ok () w':=by
 obtain⟨vs,e,c,ho,hk⟩:=HI hk;obtain⟨cs,t,fz,hb,hcell,DQ⟩:=h.cells ho hL
 have key:∀(S':St) (kd:CK) (olds:List Nat),S'.n=S.n->(∀j,S'.obj j=if j=i then some (.cells (aY off new vs) e kd)else if j∈olds then some .dead else S.obj j)->
  off+new.length<=vs.length->w0.heap.size<=L.b->Om cs.size fz->(iW.cells vs e c).reads=false->(∀l,kd= .grown l->l=[])->(iW.cells vs e c).olds=olds->(iW.cells (aY off new vs) e kd).reads=false->
  (∀j∈olds,j<S.n)->
  (∀cs':Array Value,cs'.size=cs.size->Xv P w0 L cs' vs.length fz e t kd)->
  Rel P w0 U S' (w.putObj L.b (.cells ⟨aY (L.s+off) new' cs.toList⟩ t fz))/\xM U w U (w.putObj L.b (.cells ⟨aY (L.s+off) new' cs.toList⟩ t fz))/\
   (storeCells ⟨L.b,L.s+off,none⟩ new').run P w= .ok () (w.putObj L.b (.cells ⟨aY (L.s+off) new' cs.toList⟩ t fz)):=by
  intro S' kd olds hSn uR hlen hB hth WT hkd holds aRG aOb hKR
  have hvl:∀j,j<vs.length->L.s+j<cs.size:=fun j hj=>by
   obtain⟨v',PU,_⟩:=hcell j vs[j] (aQ hj);exact(Array.getElem?_eq_some_iff.1 PU).1
  have Ch:new.length=0\/L.s+off+new'.length<=cs.size:=by
   rcases RH new.length with hz | hz
   ·exact .inl hz
   ·right
    have:=hvl (off+new.length-1) (by omega);rw [<-hn.1];omega
  have vX:cs.toList.length=cs.size:=rfl
  have hsz:(⟨aY (L.s+off) new' cs.toList⟩:Array Value).size=cs.size:=by
   rcases Ch with hz | hz
   ·have:new'=[]:=rY (by rw [<-hn.1];exact hz)
    subst this;simp [aY]
   ·show(aY (L.s+off) new' cs.toList).length=_
    rw [GT _ _ _ (by omega)];exact vX
  have Dz:∀j:Nat,(⟨aY (L.s+off) new' cs.toList⟩:Array Value)[j]? =if L.s+off<=j/\j<L.s+off+new'.length then new'[j-(L.s+off)]? else cs[j]? :=by
   intro j;rcases Ch with hz | hz
   ·have:new'=[]:=rY (by rw [<-hn.1];exact hz)
    subst this;rw [aG (by simp)];simp [aY]
   ·have:=sB (L.s+off) new' cs.toList (by omega) j
    simpa using this
  have Xg:IK P w0 U (w.putObj L.b (.cells ⟨aY (L.s+off) new' cs.toList⟩ t fz)) i (.cells (aY off new vs) e kd):=by
   refine⟨L,_,t,fz,hL,RY hb,fun j v hj=>?_,by rw [GT _ _ _ hlen];exact hKR _ hsz⟩;rw [sB _ _ _ hlen]at hj;rw [Dz];split at hj
   ·rename_i hr
    rw [aJ (by have:=hn.1;omega)];obtain⟨v',PU,hr'⟩:=hn.get hj;exact⟨v',by rw [show L.s+j-(L.s+off)=j-off by omega];exact PU,hr'⟩
   ·rename_i hr
    rw [aG (by have:=hn.1;omega)];exact hcell j v hj
  have aC1:∀j x M,j≠i->j∉olds->S.obj j=some x->x.BJ=false->U j=some M->M.b≠L.b:=by
   intro j x M hj hjo hx hd hM TN;rcases h.sep i j _ x L M (aO hj) ho hx rfl hd hL hM TN.symm with ⟨hr,_⟩ | hs | hs
   ·rw [WT]at hr;cases hr
   ·rw [holds]at hs;exact hjo hs
   ·cases x with
    | cells ws e' kk=>
     cases kk with
     | grown l=>
      obtain⟨_,h2⟩:=h.old j ws e' l hx i hs;rcases h2 _ ho with h3 | ⟨_,_,h3,_⟩
      ·cases h3
      ·injection h3 with _ _ h3;subst h3;simp [iW.reads]at WT
     | _=>simp [iW.olds]at hs
    | _=>simp [iW.olds]at hs
  have DH:∀j x,S'.obj j=some x->(j=i/\x= .cells (aY off new vs) e kd)\/(j≠i/\j∈olds/\x= .dead)\/(j≠i/\j∉olds/\S.obj j=some x):=by
   intro j x hx;rw [uR]at hx;by_cases e1:j=i
   ·rw [aJ e1]at hx;injection hx with hx;exact .inl ⟨e1,hx.symm⟩
   ·rw [aG e1]at hx
    by_cases e2:j∈olds
    ·rw [aJ e2]at hx;injection hx with hx;exact .inr (.inl ⟨e1,e2,hx.symm⟩)
    ·rw [aG e2]at hx;exact .inr (.inr ⟨e1,e2,hx⟩)
  have hrel:=h.aK (S':=S') (w':=w.putObj L.b (.cells ⟨aY (L.s+off) new' cs.toList⟩ t fz)) (b:=L.b) hB ⟨i,L,hL,rfl⟩ hSn (putObj_size _ _) (fun c hc=>yF hc) rfl rfl rfl
   (fun j x hx=>by
    rcases DH j x hx with ⟨e1,e2⟩ | ⟨e1,e2,e3⟩ | ⟨e1,e2,Mo⟩
    ·subst e1 e2;exact .inr (.inr ⟨h.lt _ _ ho,Xg⟩)
    ·subst e3;exact .inl ⟨rfl,aOb _ e2⟩
    ·cases hd:x.BJ with
     | true=>exact .inl ⟨rfl,h.lt _ _ Mo⟩
     | false=>exact .inr (.inl ⟨Mo,fun M hM=>aC1 j x M e1 e2 Mo hd hM⟩))
   (fun p q x y M N hpq hx hy hdx hdy hM hN Sz=>by
    rcases DH p x hx with ⟨e1,e2⟩ | ⟨_,_,e3⟩ | ⟨e1,e2,Mo⟩
    ·rcases DH q y hy with ⟨f1,_⟩ | ⟨_,_,f3⟩ | ⟨f1,f2,hy'⟩
     ·exact aX (e1.trans f1.symm) hpq
     ·subst f3;cases hdy
     ·subst e1;rw [hL]at hM;injection hM with hM;subst hM
      exact aX Sz.symm (aC1 q y N f1 f2 hy' hdy hN)
    ·subst e3;cases hdx
    ·rcases DH q y hy with ⟨f1,_⟩ | ⟨_,_,f3⟩ | ⟨f1,f2,hy'⟩
     ·subst f1;rw [hL]at hN;injection hN with hN;subst hN
      exact aX Sz (aC1 p x M e1 e2 Mo hdx hM)
     ·subst f3;cases hdy
     ·exact h.sep p q x y M N hpq Mo hy' hdx hdy hM hN Sz)
   (fun j ws e' l hj q hq=>by
    rcases DH j _ hj with ⟨e1,e2⟩ | ⟨_,_,e3⟩ | ⟨e1,e2,Xp⟩
    ·injection e2 with _ _ e2
     have:=hkd l e2.symm;subst this;cases hq
    ·cases e3
    ·obtain⟨g1,g2⟩:=h.old j ws e' l Xp q hq
     refine⟨g1,fun o hqo=>?_⟩;rcases DH q o hqo with ⟨f1,f2⟩ | ⟨_,_,f3⟩ | ⟨_,_,hq'⟩
     ·subst f1
      rcases g2 _ ho with g3 | ⟨_,_,g3,_⟩
      ·cases g3
      ·injection g3 with _ _ g3;subst g3;simp [iW.reads]at WT
     ·exact .inl f3
     ·exact g2 o hq')
  refine⟨hrel.1,hrel.2,?_⟩;rcases Ch with hz | hz
  ·have:new'=[]:=rY (by rw [<-hn.1];exact hz)
   subst this;have e1:aY (L.s+off) [] cs.toList=cs.toList:=by simp [aY]
   rw [e1,WR hb];simp [storeCells]
  ·have:=DJ (P:=P) new' w L.b (L.s+off) 0 cs t fz hb (by omega) (fun x hx hy=>hth x (by omega)) h1
   simpa using this
 have aQe:Ht new (vs.drop off)=true->k S=true->(∀j,j<vs.length->¬(fz.1<=L.s+j/\L.s+j<fz.2))->
  ∃S' w',k S'=true/\Rel P w0 U S' w'/\xM U w U w'/\(storeCells ⟨L.b,L.s+off,none⟩ new').run P w= .ok () w':=by
  intro hs vL hth;obtain⟨s1,s2⟩:=Vl hs
  have hnn:new'=new:=by
   apply xE;intro j;cases hj:new[j]? with
   | none=>exact hn.get_none hj
   | some v=>
    obtain⟨v',PU,hr⟩:=hn.get hj;rw [PU,hr.of_flat (s1 v (CW hj))]
  subst hnn
  have aQf:∀j v,new'[j]? =some v->cs[L.s+off+j]? =some v:=fun j v hj=>by
   obtain⟨v',PU,hr⟩:=hcell (off+j) v (by have:=s2 j v hj;rw [oT]at this;exact this);rw [<-uO]at PU;rw [PU,hr.of_flat (s1 v (CW hj))]
  have aR0:∀j,j<new'.length->off+j<vs.length:=fun j hj=>by
   have:=s2 j new'[j] (aQ hj);rw [oT]at this;exact(List.getElem?_eq_some_iff.1 this).1
  rcases RH new'.length with hz | hz
  ·have:new'=[]:=rY hz
   subst this;exact⟨S,w,vL,h,.refl U w,by simp [storeCells]⟩
  ·have hle:L.s+off+new'.length<=cs.size:=by
    have:=aQf (new'.length-1) _ (aQ (by omega));have:=(Array.getElem?_eq_some_iff.1 this).1;omega
   have fN:=DJ (P:=P) new' w L.b (L.s+off) 0 cs t fz hb (by omega) (fun x hx hy=>by
    have:=hth (x-L.s) (by have:=aR0 (x-L.s-off) (by omega);omega)
    rwa [show L.s+(x-L.s)=x by omega]at this) h1
   have AO:aY (L.s+off) new' cs.toList=cs.toList:=by
    apply xE;intro j;rw [sB _ _ _ (by simpa using hle)];split
    ·rename_i hj
     rw [aQ (by omega)];have:=aQf (j-(L.s+off)) _ (aQ (by omega));rw [show L.s+off+(j-(L.s+off))=j by omega]at this;simpa using this.symm
    ·rfl
   refine⟨S,w,vL,h,.refl U w,?_⟩;have e:w.putObj L.b (.cells ⟨aY (L.s+off) new' cs.toList⟩ t fz)=w:=by rw [AO];exact WR hb
   simpa [e]using fN
 cases c with
 | exact=>
  simp only [BH]at hk;split at hk
  ·rename_i hlen
   rw [gS]at hk;obtain⟨g1,g2,g3,g4⟩:=DQ
   obtain⟨r1,r2,r3⟩:=key (S.set i (.cells (aY off new vs) e .exact)) .exact [] rfl (fun j=>by rw [GV];simp) hlen g1 g4.1 rfl (by simp) rfl rfl (by simp)
    (fun cs' aLr=>⟨g1,g2,by omega,by rw [aLr];exact g4⟩)
   exact⟨_,_,hk,r1,r2,r3⟩
  ·cases hk
 | grown olds=>
  have vL:(NC off vs fun l=>match Ht new l with | true=>k S | false=>sU off new vs fun vs=>Uu olds S.h fun h=>ZF (.cells vs e (.grown [])) (Nat.succ i) h i fun h=>k ⟨h,S.n⟩)=true:=hk;clear hk;rw [DG]at vL;split at vL
  ·cases hs:Ht new (vs.drop off)with
   | true=>
    rw [hs]at vL;obtain⟨g1,g2,g3,g4⟩:=DQ;refine aQe hs vL fun j hj=>g2 _ ?_;obtain⟨v',PU,_⟩:=hcell j _ (aQ hj);exact(Array.getElem?_eq_some_iff.1 PU).1
   | false=>
    rw [hs]at vL;have hk:=vL;clear vL;simp only [BH]at hk;split at hk
    ·rename_i hlen
     rw [aAZ,RZ]at hk;obtain⟨g1,g2,g3,g4⟩:=DQ
     obtain⟨r1,r2,r3⟩:=key ⟨Tr.JS (iW.cells (aY off new vs) e (CK.grown [])) i.succ (olds.foldl (fun h i=>h.put i iW.dead) S.h) i,S.n⟩ (.grown []) olds rfl (fun j=>by
      show Tr.get (Tr.JS _ (i+1) _ i) j=_;rw [Oq _ _ _ _ _ (xF i),aA0];rfl) hlen g1 g2 rfl (fun l hl=>by injection hl with hl;exact hl.symm) rfl rfl
      (fun j hj=>(h.old i vs e olds ho j hj).1) (fun cs' aLr=>⟨g1,by rw [aLr];exact g2,by rw [aLr];exact g3,g4⟩)
     exact⟨_,_,hk,r1,r2,r3⟩
    ·cases hk
  ·cases vL
 | rs=>
  have vL:(NC off vs fun l=>match Ht new l with | true=>k S | false=>false)=true:=hk;rw [DG]at vL;split at vL
  ·cases hs:Ht new (vs.drop off)with
   | true=>rw [hs]at vL;exact aQe hs vL DQ.2
   | false=>rw [hs]at vL;cases vL
  ·cases vL
 | uB=>cases hk
 | ro=>cases hk
theorem GS{v:Value}{k:List Value->Bool} (hk:pM v k=true){v':Value} (hv:VR U v v'):
 ∃cs,k cs=true/\(∀x∈cs,kR x=true)/\lM U cs v'.cells.toList/\cs=v.cells.toList:=by
 unfold pM at hk;split at hk
 ·rename_i cs
  rw [mY]at hk;split at hk
  ·rename_i ha
   obtain⟨a',rfl,hl⟩:=hv.ND;exact⟨_,hk,List.all_eq_true.1 ha,hl,rfl⟩
  ·cases hk
 ·cases hk
 ·rename_i h1 h2
  have hc:v.cells= #[v]:=by cases v<;>first | rfl | exact aX rfl (h1 _)
  have ho:kR v=true:=by cases v<;>first | rfl | exact aX rfl (h1 _) | exact aX rfl (h2 _)
  have hc':v'.cells= #[v']:=by have:=hv.kR ho;cases v'<;>first | rfl | (simp [Value.oneCell']at this)
  exact⟨_,hk,by simpa using ho,by rw [hc'];exact .cons hv (.nil U),by rw [hc]⟩
theorem Ea{l l':List Value} (h:lM U l l') (h1:∀x∈l,kR x=true):∀v∈l',v.oneCell'=true:=by
 intro v hv;obtain⟨j,hj⟩:=Bh hv;have hlt:j<l.length:=by rw [h.1];exact(List.getElem?_eq_some_iff.1 hj).1
 exact(h.2 j l[j] v (aQ hlt) hj).kR (h1 _ (cK _))
theorem Xr (h:Rel P w0 U S w){t:TypeId}{a a' x x':Value}{k:St->Bool} (hk:Bx P t a x S k=true) (ha:VR U a a') (hx:VR U x x'):
 ∃S' w',k S'=true/\Rel P w0 U S' w'/\xM U w U w'/\(Instr.storeAt t a' x').run P w= .ok () w':=by
 unfold Bx at hk;split at hk
 ·rename_i i o
  cases ha with
  | flat h=>simp [bW]at h
  | ptr hL=>
   rename_i L;split at hk
   ·rename_i n hsz
    obtain⟨cs,hk,h1,vX,_⟩:=GS hk hx;rw [nT]at hk;split at hk
    ·rename_i hn
     have hn':cs.length=n:=dE hn;obtain⟨S',w',wO,r1,r2,r3⟩:=DI h hk hL vX (Ea vX h1);refine⟨S',w',wO,r1,r2,?_⟩;have aLq:x'.cells.size=n:=by rw [<-hn',vX.1];rfl
     simp [Instr.storeAt,Instr.sureAddr,storeVar,jA hsz,aLq,r3]
    ·cases hk
   ·cases hk
 ·cases hk
theorem Rel.aHy (h:Rel P w0 U S w){cs cs':List Value} (vX:lM U cs cs') (t:TypeId) (m:Nat):
 Rel P w0 (U.put S.n ⟨w.heap.size,0,cs'.length,m⟩) (S.new (.cells cs t .exact)) (w.alloc (.cells ⟨cs'⟩ t))/\xM U w (U.put S.n ⟨w.heap.size,0,cs'.length,m⟩) (w.alloc (.cells ⟨cs'⟩ t)):=by
 refine h.new _ _ _ rfl (fun U' he hU'=>⟨_,⟨cs'⟩,t,(0,0),hU',?_,fun j v hj=>?_,?_⟩) (by simp [iW.olds])
 ·show(w.heap.push _)[w.heap.size]? =_;simp
 ·obtain⟨v',PU,hr⟩:=vX.get hj
  exact⟨v',by simpa using PU,hr.mono he⟩
 ·exact⟨h.base.size,rfl,vX.1.symm,fun x _ hx=>by simp at hx,rfl⟩
theorem Rel.aAQ (h:Rel P w0 U S w){cs cs' more:List Value} (vX:lM U cs cs') (e:TypeId){m:Nat} (hm:cN P e=some m) (fz:Nat×Nat) (hfz:Om (cs'++more).length fz) (olds:List Nat)
 (hold:∀i∈olds,i<S.n/\∀x,S.obj i=some x->x= .dead\/∃ws e,x= .cells ws e .uB):
 Rel P w0 (U.put S.n ⟨w.heap.size,0,(cs'++more).length,m⟩) (S.new (.cells cs e (.grown olds))) (w.alloc (.cells ⟨cs'++more⟩ e fz))/\xM U w (U.put S.n ⟨w.heap.size,0,(cs'++more).length,m⟩) (w.alloc (.cells ⟨cs'++more⟩ e fz)):=by
 refine h.new _ _ _ rfl (fun U' he hU'=>⟨_,⟨cs'++more⟩,e,fz,hU',?_,fun j v hj=>?_,?_⟩) hold
 ·show(w.heap.push _)[w.heap.size]? =_;simp
 ·obtain⟨v',PU,hr⟩:=vX.get hj
  refine⟨v',?_,hr.mono he⟩;have hlt:j<cs'.length:=(List.getElem?_eq_some_iff.1 PU).1;have e1:(⟨cs'++more⟩:Array Value)[0+j]? =(cs'++more)[j]? :=by simp
  exact e1.trans (by rw [gI hlt];exact PU)
 ·exact⟨h.base.size,hfz,rfl,hm,rfl⟩
end mem
section mem
variable{P:Program}{w0:World}{U:Rn}{S:St}{w:World}
structure BI (P:Program) (U:Rn) (A:bC) (a:Act):Prop where
 tmps:TRs U A.tmps a.tmps.toList
 g:A.g=P.globals.size
theorem aV (h:Rel P w0 U S w){A:bC}{a:Act} (hA:BI P U A a){x:Operand}{k:Value->Bool} (hk:vM A x k=true):∃v,k v=true/\VR U v (a.eval x):=by
 obtain⟨v,hv,h1⟩:=aHI hk;refine⟨v,hv,?_⟩;rcases h1 with ⟨t,rfl,ht⟩ | ⟨rfl,hf⟩ | ⟨g,rfl,hg,rfl⟩ | ⟨f,rfl,rfl⟩
 ·obtain⟨v',PU,hr⟩:=hA.tmps.get ht
  have e:a.tmps.getD t undef=v':=by
   rw [Nl]at PU;simp [Wu,PU]
  show VR U v (a.tmps.getD t undef);rw [e];exact hr
 ·exact .kM hf
 ·obtain⟨L,h1,h2,h3⟩:=h.Oi g (by rw [<-hA.g];exact hg)
  have:=VR.ptr (o:=0) h1;rw [h2,h3]at this;exact this
 ·exact .func rfl rfl (by simp) (by simp)
theorem BM (h:Rel P w0 U S w){A:bC}{a:Act} (hA:BI P U A a):∀{xs:List Operand} {k:List Value->Bool},VP A xs k=true->∃vs,k vs=true/\lM U vs (xs.map a.eval):=by
 intro xs;induction xs with
 | nil=>intro k hk;exact⟨[],hk,.nil U⟩
 | cons x xs ih=>
  intro k hk;obtain⟨v,hv,hr⟩:=aV h hA (show vM A x (fun v=>VP A xs fun vs=>k (v::vs))=true from hk);obtain⟨vs,LB,hrs⟩:=ih hv;exact⟨v::vs,LB,.cons hr hrs⟩
theorem FU (h:Rel P w0 U S w){A:bC}{a:Act} (hA:BI P U A a){x:Option Operand}{k:Option Value->Bool} (hk:Bz A x k=true):
 ∃v,k v=true/\(v=none/\x=none\/∃u y,v=some u/\x=some y/\VR U u (a.eval y)):=by
 cases x with
 | none=>exact⟨none,hk,.inl ⟨rfl,rfl⟩⟩
 | some x=>obtain⟨v,hv,hr⟩:=aV h hA (show vM A x (fun v=>k (some v))=true from hk);exact⟨some v,hv,.inr ⟨v,x,rfl,rfl,hr⟩⟩
theorem aA1{A:bC}{a:Act} (hA:BI P U A a){d:Option Tmp}{v v':Value} (hv:VR U v v'){k:bC->Bool} (hk:mJ A d v k=true):
 ∃A',k A'=true/\BI P U A' (a.put d v')/\A'.marks=A.marks:=by
 cases d with
 | none=>exact⟨A,hk,hA,rfl⟩
 | some d=>
  obtain⟨hd,hk⟩:=FT (show uC v A.tmps d (fun ts=>k ⟨ts,A.marks,A.g⟩)=true from hk);exact⟨_,hk,⟨by simpa [Act.put]using hA.tmps.set hd hv,hA.g⟩,rfl⟩
theorem BI.mono{U':Rn} (he:Ext U U'){A:bC}{a:Act} (h:BI P U A a):BI P U' A a:=⟨h.tmps.mono he,h.g⟩
theorem Tw{t:TypeId}{a b a' b':Value}{k:Bool->Bool} (hk:wN P t a b k=true) (ha:VR U a a') (hb:VR U b b'):
 ∃e,k e=true/\bW a=true/\bW b=true/\sA P t=true/\∀(d:Nat) (w:World),(Op.equalIn (d+1) t a' b').run P w= .ok e w:=by
 unfold wN at hk;split at hk
 ·rename_i kd hu
  split at hk
  ·rename_i j x l y
   split at hk
   ·rename_i hj
    rw [pH,RR]at hk;have:=KX hj;subst this;rw [ha.of_flat rfl,hb.of_flat rfl];exact⟨_,hk,rfl,rfl,by simp [sA,hu],fun d w=>run_equalIn_int w d t j kd x y hu⟩
   ·cases hk
  ·cases hk
 ·rename_i hu
  split at hk
  ·rename_i x y
   rw [pH,RT,<-Ie,<-Ie]at hk;rw [ha.of_flat rfl,hb.of_flat rfl];exact⟨_,hk,rfl,rfl,by simp [sA,hu],fun d w=>run_equalIn_string w d t x y hu⟩
  ·cases hk
 ·rename_i hu
  split at hk
  ·rename_i x y
   rw [pH]at hk;rw [ha.of_flat rfl,hb.of_flat rfl];exact⟨_,hk,rfl,rfl,by simp [sA,hu],fun d w=>run_equalIn_bool' w d t x y hu⟩
  ·cases hk
 ·cases hk
theorem aC2{t:TypeId} (h:sA P t=true):xI P t=some false:=by
 unfold sA at h;unfold xI;split at h<;>rename_i hu<;>first | (rw [hu];rfl) | cases h
theorem VY{t:TypeId} (h:sA P t=true){cs:Array Value}{off:Nat}{v:Value} (hv:cs.toList[off]? =some v) (w:World):(part t cs off).run P w= .ok v w:=by
 rw [Nl]at hv;simp [part,KU (aC2 h),hv]
theorem Pp:∀(fs:List Field) (i:Nat) (a b:List Value) (X Y:Array Value) (k:Bool->Bool),xK P i fs=true->PQ P fs a b k=true->
 lM U a (X.toList.drop i)->lM U b (Y.toList.drop i)->∃e,k e=true/\∀(d:Nat) (w:World),(Op.eqFields (d+1) X Y fs).run P w= .ok e w:=by
 intro fs;induction fs with
 | nil=>intro i a b X Y k _ hk _ _;exact⟨true,hk,fun d w=>rfl⟩
 | cons f fs ih=>
  intro i a b X Y k hp hk ha hb;simp only [xK,dR,beq_iff_eq,bne_iff_ne]at hp;obtain⟨⟨⟨aEx,aFY⟩,xA⟩,xO⟩:=hp;cases a with
  | nil=>cases hk
  | cons x a=>
   cases b with
   | nil=>cases hk
   | cons y b=>
    have wO:wN P f.type x y (fun e=>match e with | true=>PQ P fs a b k | false=>k false)=true:=hk;obtain⟨x',tx,ex,hx,htx⟩:=ha.dH;obtain⟨y',ty,ey,hy,hty⟩:=hb.dH;obtain⟨e,he,_,_,_,fN⟩:=Tw wO hx hy;have gx:X.toList[i]? =some x':=by have:=iZ (·[0]?) ex;simpa [oT]using this
    have gy:Y.toList[i]? =some y':=by have:=iZ (·[0]?) ey;simpa [oT]using this
    have dx:X.toList.drop (i+1)=tx:=by have:=iZ List.tail ex;simpa [List.tail_drop]using this
    have dy:Y.toList.drop (i+1)=ty:=by have:=iZ List.tail ey;simpa [List.tail_drop]using this
    cases e with
    | false=>
     refine⟨false,he,fun d w=>?_⟩;simp [Op.eqFields,aEx,aFY,VY xA gx,VY xA gy,fN]
    | true=>
     obtain⟨e,he,hr⟩:=ih (i+1) a b X Y k xO he (by rw [dx];exact htx) (by rw [dy];exact hty);refine⟨e,he,fun d w=>?_⟩;simp [Op.eqFields,aEx,aFY,VY xA gx,VY xA gy,fN,hr]
theorem HG{t:TypeId}{fs:List Field} (h:RN P t=some fs):P.underlying t=some (.struct (P.fieldsOf t))/\(P.fieldsOf t).toList=fs/\xK P 0 fs=true/\P.stoodInHeld t=false/\P.eqGuardType P.depth t=false:=by
 unfold RN at h;split at h
 ·rename_i gs hu
  split at h
  ·rename_i hc
   injection h with h;simp only [dR,KN]at hc;have e:P.fieldsOf t=gs:=by simp [Program.fieldsOf,hu]
   rw [e];exact⟨hu,h,by rw [<-h];exact hc.1.1,hc.1.2,hc.2⟩
  ·cases h
 ·cases h
section aR1
variable (w:World) (d:Nat){t:TypeId}
theorem aR2{e:TypeId} (h:P.underlying t=some (.pointer e)) (a:Addr):(Op.equalIn (d+1) t (.pointer (some a)) (.pointer none)).run P w= .ok false w:=by simp [Op.equalIn,run_underlying h]
theorem aR3{e:TypeId} (h:P.underlying t=some (.pointer e)) (a:Addr):(Op.equalIn (d+1) t (.pointer none) (.pointer (some a))).run P w= .ok false w:=by simp [Op.equalIn,run_underlying h]
theorem aR4{e:TypeId} (h:P.underlying t=some (.pointer e)):(Op.equalIn (d+1) t (.pointer none) (.pointer none)).run P w= .ok true w:=by simp [Op.equalIn,run_underlying h]
theorem aR5{e:TypeId} (h:P.underlying t=some (.slice e)) (a:Addr) (n c m q:Nat):(Op.equalIn (d+1) t (.slice (some a) n c) (.slice none m q)).run P w= .ok false w:=by simp [Op.equalIn,run_underlying h]
theorem aR6{e:TypeId} (h:P.underlying t=some (.slice e)) (a:Addr) (n c m q:Nat):(Op.equalIn (d+1) t (.slice none m q) (.slice (some a) n c)).run P w= .ok false w:=by simp [Op.equalIn,run_underlying h]
theorem aR7{e:TypeId} (h:P.underlying t=some (.slice e)) (n c m q:Nat):(Op.equalIn (d+1) t (.slice none m q) (.slice none n c)).run P w= .ok true w:=by simp [Op.equalIn,run_underlying h]
theorem aR8{e f:TypeId} (h:P.underlying t=some (.map e f)) (a:Nat):(Op.equalIn (d+1) t (.map (some a)) (.map none)).run P w= .ok false w:=by simp [Op.equalIn,run_underlying h]
theorem aR9{e f:TypeId} (h:P.underlying t=some (.map e f)) (a:Nat):(Op.equalIn (d+1) t (.map none) (.map (some a))).run P w= .ok false w:=by simp [Op.equalIn,run_underlying h]
theorem aSa{e f:TypeId} (h:P.underlying t=some (.map e f)):(Op.equalIn (d+1) t (.map none) (.map none)).run P w= .ok true w:=by simp [Op.equalIn,run_underlying h]
theorem aQg{e f:Array TypeId}{v:Bool} (h:P.underlying t=some (.func e f v)) (a:Fn) (x y:Array Value):(Op.equalIn (d+1) t (.func a x y) .nilFunc).run P w= .ok false w:=by simp [Op.equalIn,run_underlying h]
theorem aQh{e f:Array TypeId}{v:Bool} (h:P.underlying t=some (.func e f v)) (a:Fn) (x y:Array Value):(Op.equalIn (d+1) t .nilFunc (.func a x y)).run P w= .ok false w:=by simp [Op.equalIn,run_underlying h]
theorem aQi{e f:Array TypeId}{v:Bool} (h:P.underlying t=some (.func e f v)):(Op.equalIn (d+1) t .nilFunc .nilFunc).run P w= .ok true w:=by simp [Op.equalIn,run_underlying h]
theorem aQj{m:Array (String×TypeId)} (h:P.underlying t=some (.interface m)) (u:TypeId) (x:Value):(Op.equalIn (d+1) t (.iface u x) .nilIface).run P w= .ok false w:=by simp [Op.equalIn,run_underlying h]
theorem aQk{m:Array (String×TypeId)} (h:P.underlying t=some (.interface m)) (u:TypeId) (x:Value):(Op.equalIn (d+1) t .nilIface (.iface u x)).run P w= .ok false w:=by simp [Op.equalIn,run_underlying h]
end aR1
def aSb:Value->Value->Prop
 | .pointer (some _),v'=>∃a,v'= .pointer (some a)
 | .slice (some _) _ _,v'=>∃a:Addr×Nat×Nat,v'= .slice (some a.1) a.2.1 a.2.2
 | .map (some _),v'=>∃b,v'= .map (some b)
 | .func _ _ _,v'=>∃a:Fn×Array Value×Array Value,v'= .func a.1 a.2.1 a.2.2
 | .iface t _,v'=>∃u,v'= .iface t u
 | .pointer none,v'=>∃_:Unit,v'= .pointer none
 | .slice none n c,v'=>∃_:Unit,v'= .slice none n c
 | .map none,v'=>∃_:Unit,v'= .map none
 | .nilFunc,v'=>∃_:Unit,v'= .nilFunc
 | .nilIface,v'=>∃_:Unit,v'= .nilIface
 | _,_=>True
theorem VR.look{v v':Value} (h:VR U v v'):aSb v v':=by
 cases h with
 | flat h=>
  cases v
  case pointer a=>cases a with | none=>exact⟨(),rfl⟩ | some a=>simp [bW]at h
  case slice a n c=>cases a with | none=>exact⟨(),rfl⟩ | some a=>simp [bW]at h
  case map a=>cases a with | none=>exact⟨(),rfl⟩ | some a=>simp [bW]at h
  case func=>simp [bW]at h
  case iface=>simp [bW]at h
  case nilFunc=>exact⟨(),rfl⟩
  case nilIface=>exact⟨(),rfl⟩
  all_goals trivial
 | ptr _=>exact⟨_,rfl⟩
 | slice _=>exact⟨(_,_,_),rfl⟩
 | rF _ _ _ _ _=>exact⟨(_,_,_),rfl⟩
 | DD=>exact⟨(_,_,_),rfl⟩
 | DF _=>exact⟨(_,_,_),rfl⟩
 | map _=>exact⟨_,rfl⟩
 | func _ _ _ _=>exact⟨(_,_,_),rfl⟩
 | yield _=>exact⟨(_,_,_),rfl⟩
 | KZ _=>exact⟨(_,_,_),rfl⟩
 | iface _=>exact⟨_,rfl⟩
 | agg _ _=>trivial
 | tuple _ _=>trivial
theorem RU{t:TypeId}{a b a' b':Value}{k:Bool->Bool} (hk:pN P t a b k=true) (ha:VR U a a') (hb:VR U b b'):
 ∃e,k e=true/\(∀(w:World),(Op.equal t a' b').run P w= .ok e w)/\(∀(op:BinOp) (x y:Operand) (w:World),(eqGuard op t x y a' b').run P w= .ok () w):=by
 have guard:∀(op:BinOp) (x y:Operand) (w:World),(∀xs,a'≠ .agg xs)->(a'= .nilIface->b'≠ .nilIface)->(eqGuard op t x y a' b').run P w= .ok () w:=by
  intro op x y w h1 h2;unfold eqGuard;cases op<;>cases a'<;>cases b'<;>first | rfl | exact aX rfl (h1 _) | exact aX rfl (h2 rfl)
 unfold pN at hk;split at hk
 ·rename_i xs ys
  split at hk
  ·rename_i fs hfs
   obtain⟨h1,h2,h3,h4,h5⟩:=HG hfs;obtain⟨xs',rfl,hx⟩:=ha.ND;obtain⟨ys',rfl,hy⟩:=hb.ND;obtain⟨e,he,hr⟩:=Pp fs 0 _ _ xs' ys' k h3 hk (by simpa using hx) (by simpa using hy);refine⟨e,he,fun w=>?_,fun op x y w=>run_eqGuard_agg w op t x y xs' ys' h5⟩;show(Op.equalIn (9999+1) t _ _).run P w=_;rw [run_equalIn_struct w 9999 t xs' ys' h1 h4,h2];exact hr 9998 w
  ·cases hk
 all_goals first
  | cases hk;done
  | (split at hk<;>first
   | cases hk;done
   | (rename_i hu
      rw [pH]at hk;have ea:=ha.of_flat rfl;have eb:=hb.of_flat rfl;rw [ea,eb]at guard;rw [ea,eb];exact⟨_,hk,fun w=>run_equal_bool w t _ _ hu,fun op x y w=>guard op x y w (by simp) (by simp)⟩)
   | (rename_i hu
      obtain⟨_,ea⟩:=ha.look;obtain⟨_,eb⟩:=hb.look;refine⟨_,hk,fun w=>?_,fun op x y w=>guard op x y w ?_ ?_⟩
      ·show(Op.equalIn (9999+1) t _ _).run P w=_
       rw [ea,eb]
       first
        | exact aR2 w 9999 hu _ | exact aR3 w 9999 hu _ | exact aR4 w 9999 hu | exact aR5 w 9999 hu _ _ _ _ _ | exact aR6 w 9999 hu _ _ _ _ _ | exact aR7 w 9999 hu _ _ _ _ | exact aR8 w 9999 hu _ | exact aR9 w 9999 hu _
        | exact aSa w 9999 hu | exact aQg w 9999 hu _ _ _ | exact aQh w 9999 hu _ _ _ | exact aQi w 9999 hu | exact aQj w 9999 hu _ _ | exact aQk w 9999 hu _ _
      ·intro xs e;rw [ea]at e;cases e
      ·intro e e2;rw [ea]at e;rw [eb]at e2;first | (cases e;done) | (cases e2;done)))
end mem
section mem
variable{P:Program}{w0:World}{U:Rn}{S:St}{w:World}
def AS:Value->Bool
 | .int _ _ | .float _ _ | .complex _ _ _ | .string _=>true
 | _=>false
theorem VR.AS{v v':Value} (h:VR U v v'):AS v'=AS v:=by cases h<;>rfl
theorem Es{t:TypeId}{a b:Value}{k:Bool->Bool} (hk:pN P t a b k=true):AS a=false:=by
 cases a<;>first | rfl | (unfold pN at hk;cases hk)
theorem binOp_eql{t:TypeId}{a b:Value} (h:AS a=false):binOp .eql t a b=(do pure (.bool (<-Op.equal t a b))):=by
 cases a<;>cases b<;>first | rfl | (simp [AS]at h)
theorem binOp_neq{t:TypeId}{a b:Value} (h:AS a=false):binOp .neq t a b=(do pure (.bool (!(<-Op.equal t a b)))):=by
 cases a<;>cases b<;>first | rfl | (simp [AS]at h)
theorem Vm (op:BinOp) (t:TypeId) (x y:Operand){a b:Value} (ha:AS a=true) (w:World):(eqGuard op t x y a b).run P w= .ok () w:=by
 unfold eqGuard;cases op<;>cases a<;>first | (simp [AS]at ha;done) | (cases b<;>rfl)
theorem Ov{op:BinOp}{t:TypeId}{a b a' b':Value}{K:Value->Bool} (hk:By P op t a b K=true) (ha:VR U a a') (hb:VR U b b'):
 ∃v,K v=true/\bW v=true/\∀(x y:Operand) (w:World),((do eqGuard op t x y a' b';binOp op t a' b'):Sem Value).run P w= .ok v w:=by
 unfold By at hk;split at hk
 ·rename_i k x k' y
  rw [ha.of_flat rfl,hb.of_flat rfl]
  have fin:∀v,K v=true->bW v=true->(∀(P:Program) (t:TypeId) (w:World),(binOp op t (.int k x) (.int k' y)).run P w= .ok v w)->∃v,K v=true/\bW v=true/\∀(x' y':Operand) (w:World),((do eqGuard op t x' y' (.int k x) (.int k' y);binOp op t (.int k x) (.int k' y)):Sem Value).run P w= .ok v w:=
   fun v h1 h2 h3=>⟨v,h1,h2,fun x' y' w=>by rw [cP,Vm op t x' y' rfl];exact h3 P t w⟩
  split at hk
  ·obtain⟨v,h1,h2,h3⟩:=El (k':=k') hk;exact fin v h1 h2 h3
  ·obtain⟨v,h1,h2,h3⟩:=El (k':=k') hk;exact fin v h1 h2 h3
  ·split at hk
   ·rename_i hj
    have:=KX hj;subst this;obtain⟨v,h1,h2,_,_,h3⟩:=Tp hk;exact fin v h1 h2 h3
   ·cases hk
 ·rename_i x y
  rw [ha.of_flat rfl,hb.of_flat rfl];obtain⟨v,h1,h2,h3⟩:=Tq hk;exact⟨v,h1,h2,fun x' y' w=>by rw [cP,Vm op t x' y' rfl];exact h3 P t w⟩
 ·split at hk
  ·have hs:=Es hk
   obtain⟨e,he,h1,h2⟩:=RU hk ha hb;rw [rI]at he;exact⟨_,he,rfl,fun x y w=>by rw [cP,h2,eE,binOp_eql (by rw [ha.AS,hs])];simp [h1]⟩
  ·have hs:=Es hk
   obtain⟨e,he,h1,h2⟩:=RU hk ha hb;rw [rI]at he;exact⟨_,he,rfl,fun x y w=>by rw [cP,h2,eE,binOp_neq (by rw [ha.AS,hs])];simp [h1]⟩
  ·cases hk
theorem Ve{op:UnOp}{a a':Value}{K:Value->Bool} (hk:unK op a K=true) (ha:VR U a a'):
 ∃v,K v=true/\bW v=true/\∀(w:World),(Op.unary op a').run P w= .ok v w:=by
 unfold unK at hk;split at hk
 ·rw [Yc]at hk
  rw [ha.of_flat rfl];exact⟨_,hk,rfl,fun w=>rfl⟩
 ·rw [nU]at hk
  rw [ha.of_flat rfl];exact⟨_,hk,rfl,fun w=>rfl⟩
 ·rw [rI]at hk
  rw [ha.of_flat rfl];exact⟨_,hk,rfl,fun w=>rfl⟩
 ·cases hk
theorem If{d:Nat}{x:Option Value}{k:Nat->Bool} (hk:aFX d x k=true):∃n,k n=true/\(x=none/\n=d\/∃kd,x=some (.int kd (.ofNat n))):=by
 unfold aFX at hk;split at hk
 ·exact⟨d,hk,.inl ⟨rfl,rfl⟩⟩
 ·rename_i kd n;exact⟨n,hk,.inr ⟨kd,rfl⟩⟩
 ·cases hk
def Lh (U:Rn) (x x':Option Value):Prop:=(x=none/\x'=none)\/∃v v',x=some v/\x'=some v'/\VR U v v'
theorem Lh.int{x x':Option Value} (h:Lh U x x'){kd:IntKind}{n:Nat} (e:x=some (.int kd (.ofNat n))):x'=some (.int kd (.ofNat n)):=by
 rcases h with ⟨h,_⟩ | ⟨v,v',h1,h2,hr⟩
 ·rw [e]at h;cases h
 ·rw [e]at h1;injection h1 with h1;subst h1
  rw [h2,hr.of_flat rfl]
theorem Lh.none{x x':Option Value} (h:Lh U x x') (e:x=none):x'=none:=by
 rcases h with ⟨_,h⟩ | ⟨v,v',h1,_⟩
 ·exact h
 ·rw [e]at h1;cases h1
theorem GX{len cap:Nat}{lo hi mx Mv Ce Dm:Option Value}{k:Nat->Nat->Nat->Bool} (hk:RM len cap lo hi mx k=true)
 (hl:Lh U lo Mv) (hh:Lh U hi Ce) (hm:Lh U mx Dm):
 ∃l h m,k l h m=true/\l<=h/\h<=m/\m<=cap/\(mx=none->m=cap)/\∀(Ig:Nat),cap<=Ig->(Dm=none->mx=none)->∀(isSlice:Bool) (w:World),(Dm=none\/Ce≠none)->
  (Instr.sliceBounds isSlice len Ig Mv Ce Dm).run P w= .ok (l,h,if Dm=none then Ig else m) w:=by
 unfold RM at hk;obtain⟨m,hk,em⟩:=If hk;obtain⟨h,hk,eh⟩:=If hk;obtain⟨l,hk,el⟩:=If hk;split at hk
 ·rename_i h1 h2 h3
  have h1:=cG h1;have h2:=cG h2;have h3:=cG h3;refine⟨l,h,m,hk,h1,h2,h3,fun e=>?_,fun Ig hc hmm isS w hhi=>?_⟩
  ·rcases em with ⟨_,e'⟩ | ⟨kd,e'⟩
   ·exact e'
   ·rw [e]at e';cases e'
  ·have elo:(match Mv with | some v=>Instr.sliceBound v h (if Dm.isSome then .slice3C else .sliceB) | none=>(pure 0:Sem Nat)).run P w= .ok l w:=by
    rcases el with ⟨e,e'⟩ | ⟨kd,e⟩
    ·rw [hl.none e,e'];rfl
    ·rw [hl.int e];simp [Instr.sliceBound,asIntOf,h1]
   rcases em with ⟨e,e'⟩ | ⟨kd,e⟩
   ·have emx:=hm.none e
    subst emx
    have ehi:(match Ce with | some v=>Instr.sliceBound v Ig (if isS then .sliceAcap else .sliceAlen) | none=>(pure len:Sem Nat)).run P w= .ok h w:=by
     rcases eh with ⟨e2,e2'⟩ | ⟨kd2,e2⟩
     ·rw [hh.none e2,e2'];rfl
     ·rw [hh.int e2];simp [Instr.sliceBound,asIntOf];omega
    unfold Instr.sliceBounds;cases Ce with
    | none=>
     simp at ehi;cases Mv with
     | none=>simp at elo;simp [elo,ehi]
     | some u=>simp at elo;simp [elo,ehi]
    | some v=>
     simp at ehi;cases Mv with
     | none=>simp at elo;simp [elo,ehi]
     | some u=>simp at elo;simp [elo,ehi]
   ·have emx:=hm.int e
    subst emx;have aSc:Ce≠none:=by rcases hhi with h | h;cases h;exact h
    rcases eh with ⟨e2,_⟩ | ⟨kd2,e2⟩
    ·exact aX (hh.none e2) aSc
    ·have ehi:=hh.int e2
     subst ehi;simp only [Option.isSome_some,if_true]at elo;have r1:(Instr.sliceBound (.int kd (.ofNat m)) Ig (if isS then .slice3Acap else .slice3Alen)).run P w= .ok m w:=by simp [Instr.sliceBound,asIntOf];omega
     have r2:(Instr.sliceBound (.int kd2 (.ofNat h)) m .slice3B).run P w= .ok h w:=by simp [Instr.sliceBound,asIntOf];omega
     unfold Instr.sliceBounds;cases Mv with
     | none=>
      simp at elo;simp only [cP,r1,eE,r2,kJ];simp [elo]
     | some u=>
      simp only at elo;simp only [cP,r1,eE,r2,kJ,Option.isSome_some,if_true,elo];simp
 ·cases hk
end mem
section mem
variable{P:Program}{w0:World}{U:Rn}{S:St}{w:World}
theorem gE{t e:TypeId} (h:isSlice P t=some e):P.underlying t=some (.slice e):=by
 unfold isSlice at h;split at h
 ·rename_i hu;injection h with h;subst h;exact hu
 ·cases h
theorem aBs (s:ByteArray) (l h:Nat) (_:h<=s.size):s.extract l h=⟨⟨(s.data.toList.take h).drop l⟩⟩:=by
 apply ByteArray.ext;apply Array.toList_inj.1;simp [ByteArray.data_extract,Array.toList_extract,List.extract_eq_take_drop,List.drop_take]
theorem Eb (h:Rel P w0 U S w){t:TypeId}{x x':Value}{lo hi mx Mv Ce Dm:Option Value}{K:Value->Bool} (hk:uQ P t x lo hi mx S K=true)
 (hx:VR U x x') (hl:Lh U lo Mv) (hh:Lh U hi Ce) (hm:Lh U mx Dm) (hmh:Dm=none\/Ce≠none):
 ∃v v',K v=true/\VR U v v'/\∀w,(Instr.sliceAt t x' Mv Ce Dm).run P w= .ok v' w:=by
 have hmm:Dm=none->mx=none:=fun e=>by
  rcases hm with ⟨h,_⟩ | ⟨_,_,_,h,_⟩
  ·exact h
  ·rw [e]at h;cases h
 unfold uQ at hk;split at hk
 ·
   rename_i s;split at hk
   ·rename_i hu
    rw [hx.of_flat rfl];rw [nT]at hk;obtain⟨l,h',m,hk,h1,h2,h3,h4,fN⟩:=GX (P:=P) hk hl hh (.inl ⟨rfl,rfl⟩);rw [HF]at hk;have hsz:s.data.toList.length=s.size:=rfl;split at hk
    ·rename_i hle
     rw [DG]at hk;split at hk
     ·refine⟨_,_,hk,.flat rfl,fun w=>?_⟩
      have e1:=hm.none rfl;subst e1;have:=fN s.data.toList.length (bR _) (fun _=>rfl) false w (.inl rfl);rw [hsz]at this;simp only [if_true]at this;simp [Instr.sliceAt,run_underlying hu,Instr.slice,this,aBs s l h' (by omega)]
     ·cases hk
    ·cases hk
   ·cases hk
 ·
   rename_i len cap;split at hk
   ·rename_i e he
    have hu:=gE he;split at hk
    ·rename_i size hsz
     rw [hx.of_flat rfl];obtain⟨l,h',m,wO,h1,h2,h3,h4,fN⟩:=GX (P:=P) hk hl hh hm;simp only [bK]at wO;refine⟨_,.slice none (h'-l) (m-l),wO,.flat rfl,fun w=>?_⟩;have:=fN cap (bR _) hmm true w hmh
     have em:(if Dm=none then cap else m)=m:=by
      split
      ·rename_i e2;exact(h4 (hmm e2)).symm
      ·rfl
     rw [em]at this;simp [Instr.sliceAt,run_underlying hu,Instr.slice,this,jA hsz]
    ·cases hk
   ·cases hk
 ·
   rename_i i o sp len cap;split at hk
   ·rename_i e he
    have hu:=gE he;split at hk
    ·rename_i size hsz
     obtain⟨l,h',m,wO,h1,h2,h3,h4,fN⟩:=GX (P:=P) hk hl hh hm;simp only [bK]at wO;clear hk
     have go:∀(a:Addr) (Ig:Nat),cap<=Ig->∀w,(Instr.sliceAt t (.slice (some a) len Ig) Mv Ce Dm).run P w=
      .ok (.slice (some (if(if Dm=none then Ig else m)=l then a else a.add (l*size))) (h'-l) ((if Dm=none then Ig else m)-l)) w:=by
      intro a Ig hc w;have:=fN Ig hc hmm true w hmh;have e1:∀(q:Nat),(if q=l then some a else some (a.add (l*size)))=some (if q=l then a else a.add (l*size)):=fun q=>by split<;>rfl
      simp [Instr.sliceAt,run_underlying hu,Instr.slice,this,jA hsz,e1]
     cases hx with
     | flat h=>simp [bW]at h
     | @slice _ _ _ _ L hL=>
      have em:(if Dm=none then cap else m)=m:=by
       split
       ·rename_i e2;exact(h4 (hmm e2)).symm
       ·rfl
      have Sr:=go ⟨L.b,L.s+o,none⟩ cap (bR _);simp only [em]at Sr
      replace wO:(match Nat.beq m l with | true=>K (.slice (some ⟨i,o,none⟩) (h'-l) (m-l)) | false=>K (.slice (some ⟨i,o+l*size,none⟩) (h'-l) (m-l)))=true:=wO
      split at wO
      ·rename_i UW
       have UW:=dE UW;exact⟨_,_,wO,.slice hL,fun w=>by rw [Sr w,aJ UW]⟩
      ·rename_i UW
       have UW:m≠l:=fun e=>by subst e;simp at UW
       exact⟨_,_,wO,.slice hL,fun w=>by rw [Sr w,aG UW,rG,uO]⟩
     | @rF _ _ _ _ c' L hL hc hn Ti hmp=>
      have Sr:=go ⟨L.b,L.s+o,none⟩ c' hc;cases mx with
      | some y=>
       have oJ:Dm≠none:=fun e=>by have:=hmm e;cases this
       simp only [aG oJ]at Sr
       replace wO:(match Nat.beq m l with | true=>K (.slice (some ⟨i,o,none⟩) (h'-l) (m-l)) | false=>K (.slice (some ⟨i,o+l*size,none⟩) (h'-l) (m-l)))=true:=wO
       split at wO
       ·rename_i UW
        have UW:=dE UW;exact⟨_,_,wO,.slice hL,fun w=>by rw [Sr w,aJ UW]⟩
       ·rename_i UW
        have UW:m≠l:=fun e=>by subst e;simp at UW
        exact⟨_,_,wO,.slice hL,fun w=>by rw [Sr w,aG UW,rG,uO]⟩
      | none=>
       have he':=hm.none rfl;subst he';simp only [if_true]at Sr;have hm':=h4 rfl;subst hm'
       replace wO:(match Nat.beq m l with | true=>K (.slice (some ⟨i,0,some 1⟩) 0 0) | false=>(DA S i fun _ e ck=>match ck,cN P e with | .exact,_=>false | _,some q=>(match Nat.beq q size with | true=>K (.slice (some ⟨i,o+l*size,some 0⟩) (h'-l) (m-l)) | false=>false) | _,none=>false))=true:=wO
       split at wO
       ·rename_i UW
        have UW:=dE UW;have e0:h'-l=0:=by omega
        refine⟨_,.slice (some (if c'=l then⟨L.b,L.s+o,none⟩else(⟨L.b,L.s+o,none⟩:Addr).add (l*size))) 0 (c'-l),wO,.DD,fun w=>?_⟩;rw [Sr w,e0]
       ·rename_i UW
        have UW:m≠l:=fun e=>by subst e;simp at UW
        obtain⟨vs,e',ck,ho,wO⟩:=HI wO;obtain⟨cs,tt,fz,hb,_,DQ⟩:=h.cells ho hL;cases hq:cN P e' with
        | none=>rw [hq]at wO;cases ck<;>cases wO
        | some q=>
         rw [hq]at wO;have oJ:ck≠ .exact:=by rintro rfl;cases wO
         have vL:(match Nat.beq q size with | true=>K (.slice (some ⟨i,o+l*size,some 0⟩) (h'-l) (m-l)) | false=>false)=true:=by cases ck<;>first | exact wO | exact aX rfl oJ
         split at vL
         ·rename_i hqs
          have hqs:=dE hqs;subst hqs
          have hm:L.m=q:=by
           cases ck with
           | exact=>exact aX rfl oJ
           | grown _=>obtain⟨_,_,_,h5,_⟩:=DQ;rw [hq]at h5;injection h5 with h5;exact h5.symm
           | uB=>obtain⟨_,h5,_⟩:=DQ;rw [hq]at h5;injection h5 with h5;exact h5.symm
           | ro=>have h5:cN P e'=some L.m:=DQ;rw [hq]at h5;injection h5 with h5;exact h5.symm
           | rs=>have h5:=DQ.1;rw [hq]at h5;injection h5 with h5;exact h5.symm
          refine⟨_,.slice (some ⟨L.b,L.s+(o+l*q),none⟩) (h'-l) (c'-l),vL,(.rF hL (by omega) (by omega) ?_ hmp),fun w=>by rw [Sr w,aG (by omega),rG,uO]⟩;rw [hm]at Ti ⊢;have:l*q+(c'-l)*q=c'*q:=by rw [<-KP];congr 1;omega
          omega
         ·cases vL
     | @DD _ c' a=>
      have e0:l=0/\h'=0/\m=0:=by omega
      obtain⟨rfl,rfl,rfl⟩:=e0;have Sr:=go a c' (BG _)
      replace wO:K (.slice (some ⟨i,0,some 1⟩) 0 0)=true:=wO
      refine⟨_,.slice (some a) 0 ((if Dm=none then c' else 0)-0),wO,.DD,fun w=>?_⟩;rw [Sr w];simp [Addr.add]
     | @DF _ _ s sp2 tZ=>
      have e0:l=0/\h'=0/\m=0:=by omega
      obtain⟨rfl,rfl,rfl⟩:=e0;have Sr:=go ⟨i,o,sp2⟩ 0 (BG _)
      replace wO:K (.slice (some ⟨i,0,some 1⟩) 0 0)=true:=wO
      refine⟨_,.slice (some ⟨i,o,sp2⟩) 0 ((if Dm=none then 0 else 0)-0),wO,.DD,fun w=>?_⟩;rw [Sr w];simp []
    ·cases hk
   ·cases hk
 ·
   rename_i i o;split at hk
   ·rename_i n e hu
    split at hk
    ·rename_i size hsz
     obtain⟨l,h',m,wO,h1,h2,h3,h4,fN⟩:=GX (P:=P) hk hl hh hm;simp only [bK]at wO;clear hk
     have em:(if Dm=none then n else m)=m:=by
      split
      ·rename_i e2;exact(h4 (hmm e2)).symm
      ·rfl
     cases hx with
     | flat h=>simp [bW]at h
     | @ptr _ _ L hL=>
      have Sr:∀w,(Instr.sliceAt t (.pointer (some ⟨L.b,L.s+o,none⟩)) Mv Ce Dm).run P w= .ok (.slice (some (if m=l then⟨L.b,L.s+o,none⟩else(⟨L.b,L.s+o,none⟩:Addr).add (l*size))) (h'-l) (m-l)) w:=by
       intro w;have:=fN n (bR _) hmm false w hmh;rw [em]at this;simp [Instr.sliceAt,run_underlying hu,Instr.sureAddr,this,jA hsz]
      split at wO
      ·rename_i UW
       have UW:=dE UW;exact⟨_,_,wO,.slice hL,fun w=>by rw [Sr w,aJ UW]⟩
      ·rename_i UW
       have UW:m≠l:=fun e=>by subst e;simp at UW
       exact⟨_,_,wO,.slice hL,fun w=>by rw [Sr w,aG UW,rG,uO]⟩
    ·cases hk
   ·cases hk
 ·cases hk
end mem
section mem
variable{P:Program}{w0:World}{U:Rn}{S:St}{w:World}
theorem VR.mQ{i o:Nat}{sp:Option Nat}{n c:Nat}{v':Value} (h:VR U (.slice (some ⟨i,o,sp⟩) n c) v'):
 (∃L c',U i=some L/\v'= .slice (some ⟨L.b,L.s+o,none⟩) n c'/\((sp=none/\c'=c)\/(sp=some 0/\c<=c'/\n<=c/\L.s+o+c'*L.m=L.e/\0<L.m)))\/((∃s,sp=some (s+1))/\n=0/\c=0/\∃a c',v'= .slice (some a) 0 c'):=by
 cases h with
 | flat h=>simp [bW]at h
 | slice hL=>exact .inl ⟨_,_,hL,rfl,.inl ⟨rfl,rfl⟩⟩
 | rF hL hc hn he hm=>exact .inl ⟨_,_,hL,rfl,.inr ⟨rfl,hc,hn,he,hm⟩⟩
 | DD=>exact .inr ⟨⟨_,rfl⟩,rfl,rfl,_,_,rfl⟩
 | DF _=>exact .inr ⟨⟨_,rfl⟩,rfl,rfl,_,_,rfl⟩
theorem VR.JT{i o:Nat}{sp:Option Nat}{v':Value} (h:VR U (.pointer (some ⟨i,o,sp⟩)) v'):sp=none/\∃L,U i=some L/\v'= .pointer (some ⟨L.b,L.s+o,none⟩):=by
 cases h with
 | flat h=>simp [bW]at h
 | ptr hL=>exact⟨rfl,_,hL,rfl⟩
theorem PR{t:TypeId}{x x' ix ix':Value}{K:Value->Bool} (hk:FN P t x ix K=true) (hx:VR U x x') (hi:VR U ix ix'):
 ∃v v',K v=true/\VR U v v'/\∀w,(Instr.indexAt t x' ix').run P w= .ok v' w:=by
 unfold FN at hk;split at hk
 ·rename_i kd j
  rw [hi.of_flat rfl];split at hk
  ·rename_i b o sp len c
   rcases hx.mQ with ⟨L,c',hL,rfl,AO⟩ | ⟨⟨_,rfl⟩,_⟩
   ·have vL:(match isSlice P t with
     | some elem=>(match cN P elem,Nat.blt j len with
      | some size,true=>bV (o+j*size) fun o=>K (.pointer (some ⟨b,o,none⟩))
      | _,_=>false)
     | none=>false)=true:=by
     rcases AO with ⟨rfl,_⟩ | ⟨rfl,_⟩<;>exact hk
    split at vL
    ·rename_i e he
     have hu:=gE he;split at vL
     ·rename_i size hsz hj
      have hj:j<len:=cG hj;rw [bK]at vL;refine⟨_,_,vL,.ptr hL,fun w=>?_⟩;simp [Instr.indexAt,asIntOf,run_underlying hu,hj,jA hsz,rG,uO]
     ·cases vL
    ·cases vL
   ·cases hk
  ·rename_i b o
   obtain⟨_,L,hL,rfl⟩:=hx.JT;split at hk
   ·rename_i len e hu
    split at hk
    ·rename_i size hsz hj
     have hj:j<len:=cG hj;rw [bK]at hk;refine⟨_,_,hk,.ptr hL,fun w=>?_⟩;simp [Instr.indexAt,asIntOf,run_underlying hu,Instr.sureAddr,hj,jA hsz,rG,uO]
    ·cases hk
   ·cases hk
  ·cases hk
 ·cases hk
theorem Dq{s:TypeId}{f:Nat}{fd:Field} (h:DB P s f=some fd):∃fs,P.underlying s=some (.struct fs)/\fs[f]? =some fd:=by
 unfold DB at h;split at h
 ·rename_i fs hu;exact⟨fs,hu,h⟩
 ·cases h
theorem PS{s:TypeId}{x x':Value}{f:Nat}{K:Value->Bool} (hk:FO P s x f K=true) (hx:VR U x x'):
 ∃v v',K v=true/\VR U v v'/\∀w,(Instr.fieldAt s x' f).run P w= .ok v' w:=by
 unfold FO at hk;split at hk
 ·rename_i b o
  obtain⟨_,L,hL,rfl⟩:=hx.JT;split at hk
  ·rename_i fd hf
   obtain⟨fs,hu,hfs⟩:=Dq hf;split at hk
   ·rename_i q hsz
    rw [bK]at hk;refine⟨_,_,hk,.ptr hL,fun w=>?_⟩;simp [Instr.fieldAt,run_underlying hu,hfs,Instr.sureAddr,fieldPlace,jA hsz,rG,uO]
   ·cases hk
  ·cases hk
 ·cases hk
theorem Jp{t:TypeId}{cs:List Value}{cs':Array Value}{off:Nat}{K:Value->Bool} (hk:Uv P t cs off K=true) (vX:lM U cs cs'.toList):
 ∃v v',K v=true/\VR U v v'/\∀w,(part t cs' off).run P w= .ok v' w:=by
 unfold Uv at hk;split at hk
 ·rename_i aCL
  obtain⟨v,hv,hk⟩:=PT hk;obtain⟨v',PU,hr⟩:=vX.get hv;rw [Nl]at PU;exact⟨v,v',hk,hr,fun w=>by simp [part,KU aCL,PU]⟩
 ·rename_i aCL
  split at hk
  ·rename_i n hsz
   rw [DG]at hk;split at hk
   ·rw [HF]at hk
    split at hk
    ·rename_i h1 h2
     refine⟨_,.agg ⟨(cs'.toList.drop off).take n⟩,hk,.Xe ((vX.drop off).take n),fun w=>?_⟩
     have:cs'.extract off (off+n)=⟨(cs'.toList.drop off).take n⟩:=by
      apply Array.toList_inj.1;simp [Array.toList_extract,List.extract_eq_take_drop]
     simp [part,KU aCL,jA hsz,this]
    ·cases hk
   ·cases hk
  ·cases hk
 ·cases hk
theorem Dr{t:TypeId}{x x':Value}{f:Nat}{K:Value->Bool} (hk:VQ P t x f K=true) (hx:VR U x x'):
 ∃v v',K v=true/\VR U v v'/\∀w,(Instr.field t x' f).run P w= .ok v' w:=by
 unfold VQ at hk;split at hk
 ·rename_i cs
  obtain⟨cs',rfl,vX⟩:=hx.ND;split at hk
  ·rename_i fd hf
   obtain⟨fs,hu,hfs⟩:=Dq hf;obtain⟨v,v',h1,h2,h3⟩:=Jp hk vX;exact⟨v,v',h1,h2,fun w=>by simp [Instr.field,run_underlying hu,hfs,asAgg,h3]⟩
  ·cases hk
 ·cases hk
theorem Ds{t:TypeId}{x x' ix ix':Value}{K:Value->Bool} (hk:Hu P t x ix K=true) (hx:VR U x x') (hi:VR U ix ix'):
 ∃v v',K v=true/\VR U v v'/\∀w,(Instr.index t x' ix').run P w= .ok v' w:=by
 unfold Hu at hk;split at hk
 ·rename_i kd j
  rw [hi.of_flat rfl];split at hk
  ·rename_i cs
   obtain⟨cs',rfl,vX⟩:=hx.ND;split at hk
   ·rename_i len e hu
    split at hk
    ·rename_i size hsz hj
     have hj:j<len:=cG hj;obtain⟨v,v',h1,h2,h3⟩:=Jp hk vX;exact⟨v,v',h1,h2,fun w=>by simp [Instr.index,asIntOf,run_underlying hu,hj,jA hsz,h3]⟩
    ·cases hk
   ·cases hk
  ·rename_i s
   rw [hx.of_flat rfl];split at hk
   ·rename_i hu
    obtain⟨b,hb,hk⟩:=PT hk;rw [bK]at hk;refine⟨_,_,hk,.flat rfl,fun w=>?_⟩
    have TN:s[j]? =some b:=by
     rw [Nl]at hb;obtain⟨h1,h2⟩:=Array.getElem?_eq_some_iff.1 hb;have h3:j<s.size:=h1;rw [getElem?_pos s j h3]
     congr 1
    simp [Instr.index,asIntOf,run_underlying hu,TN]
   ·cases hk
  ·cases hk
 ·cases hk
theorem Xf (l:List Value):∀(off n:Nat) (cs:Array Value),off+n+l.length<=cs.size->
 ((l.zipIdx n).foldl (fun cs (x:Value×Nat)=>cs.setIfInBounds (off+x.2) x.1) cs).toList=aY (off+n) l cs.toList:=by
 induction l with
 | nil=>intro off n cs _;simp [aY]
 | cons v l ih=>
  intro off n cs h;simp only [List.zipIdx_cons,Nr];rw [ih off (n+1) _ (by simp at h ⊢;omega)];apply xE;intro j;have hl:cs.toList.length=cs.size:=rfl;rw [sB _ _ _ (by simp at h ⊢;omega),sB _ _ _ (by simp at h ⊢;omega)];simp only [Bf,oU];by_cases h2:j=off+n
  ·subst h2
   rw [aG (by omega),aJ (by omega),Nat.sub_self];have:off+n<cs.size:=by simp at h;omega
   simp [this]
  ·by_cases h3:off+(n+1)<=j/\j<off+(n+1)+l.length
   ·rw [aJ h3,aJ (by omega)]
    obtain⟨q,rfl⟩:∃q,j=off+n+(q+1):=⟨j-(off+n+1),by omega⟩;rw [show off+n+(q+1)-(off+(n+1))=q by omega,show off+n+(q+1)-(off+n)=q+1 by omega];simp
   ·rw [aG h3,aG (by omega),IE (by omega)]
def Ny (U:Rn) (l l':List (Nat×Value)):Prop:=l.length=l'.length/\∀(k:Nat) (p p':Nat×Value),l[k]? =some p->l'[k]? =some p'->p.1=p'.1/\VR U p.2 p'.2
theorem Ny.dH{p:Nat×Value}{l l':List (Nat×Value)} (h:Ny U (p::l) l'):∃p' t',l'=p'::t'/\p.1=p'.1/\VR U p.2 p'.2/\Ny U l t':=by
 cases l' with
 | nil=>have:=h.1;simp at this
 | cons p' t'=>
  obtain⟨h1,h2⟩:=h.2 0 p p' rfl rfl;exact⟨p',t',rfl,h1,h2,by simpa using h.1,fun k q q' a b=>h.2 (k+1) q q' (by simpa using a) (by simpa using b)⟩
theorem NE{place place':Nat->Option (Nat×Nat)} (xA:∀i q,place i=some q->place' i=some q):∀{parts parts':List (Nat×Value)} {cells:List Value} {cells':Array Value} {k:List Value->Bool},
 ZX place parts cells k=true->Ny U parts parts'->lM U cells cells'.toList->∃out Sy,k out=true/\Instr.fill place' cells' parts'=some Sy/\lM U out Sy.toList/\out.length=cells.length:=by
 intro parts;induction parts with
 | nil=>
  intro parts' cells cells' k hk hp hc;have:parts'=[]:=rY hp.1.symm;subst this;exact⟨cells,cells',hk,rfl,hc,rfl⟩
 | cons p parts ih=>
  intro parts' cells cells' k hk hp hc;obtain⟨p',t',rfl,h1,h2,ht⟩:=hp.dH
  have wO:(match place p.1 with
   | some (off,size)=>pM p.2 fun new=>KQ new fun m=>match Nat.beq m size with
    | true=>sU off new cells fun cs=>ZX place parts cs k
    | false=>false
   | none=>false)=true:=hk
  split at wO
  ·rename_i off size hq
   obtain⟨new,wO,RP,Xg,_⟩:=GS wO h2;rw [nT]at wO;split at wO
   ·rename_i hm
    have hm:=dE hm;rw [BH]at wO;split at wO
    ·rename_i hlen
     have hsz:p'.2.cells.size=size:=by rw [<-hm,Xg.1];rfl
     have Hi:cells.length=cells'.size:=hc.1;have Xh:new.length=p'.2.cells.size:=Xg.1
     have e1:(p'.2.cells.zipIdx.foldl (fun cs (x:Value×Nat)=>cs.setIfInBounds (off+x.2) x.1) cells').toList=aY off p'.2.cells.toList cells'.toList:=by
      rw [<-Array.foldl_toList,Array.toList_zipIdx];exact Xf p'.2.cells.toList off 0 cells' (by have:p'.2.cells.toList.length=p'.2.cells.size:=rfl;omega)
     obtain⟨out,Sy,g1,g2,g3,g4⟩:=ih (cells':=p'.2.cells.zipIdx.foldl (fun cs (x:Value×Nat)=>cs.setIfInBounds (off+x.2) x.1) cells') wO ht (by rw [e1];exact hc.aY Xg off);refine⟨out,Sy,g1,?_,g3,by rw [g4,GT _ _ _ hlen]⟩;obtain⟨i',v'⟩:=p';simp only at h1;simp only [Instr.fill,<-h1,xA _ _ hq];have c1:(v'.cells.size != size)=false:=by simp;exact hsz
     have c2:¬off+v'.cells.size>cells'.size:=by
      have:v'.cells.size=new.length:=by rw [Xh]
      omega
     rw [aG (by simp;have:v'.cells.size=new.length:=by rw [Xh]
                omega)]
     exact g2
    ·cases wO
   ·cases wO
  ·cases wO
end mem
section mem
variable{P:Program}{w0:World}{U:Rn}{S:St}{w:World}
theorem JU (h:Rel P w0 U S w){A:bC}{a:Act} (hA:BI P U A a):∀{parts:List (Nat×Operand)} {k:List (Nat×Value)->Bool},IH A parts k=true->
 ∃ps,k ps=true/\Ny U ps (parts.map fun p=>(p.1,a.eval p.2)):=by
 intro parts;induction parts with
 | nil=>intro k hk;exact⟨[],hk,rfl,by simp⟩
 | cons p parts ih=>
  intro k hk;obtain⟨v,hv,hr⟩:=aV h hA (show vM A p.2 (fun v=>IH A parts fun l=>k ((p.1,v)::l))=true from hk);obtain⟨ps,VV,hrs⟩:=ih hv;refine⟨(p.1,v)::ps,VV,by simp [hrs.1],fun j q q' x y=>?_⟩;cases j with
  | zero=>simp at x y;subst x y;exact⟨rfl,hr⟩
  | succ j=>simp at x;exact hrs.2 j q q' x (by simpa using y)
theorem Xi:∀(fs:List Field) (pl:List (Nat×Nat)),placesOf P fs=some pl->∀w,(fs.mapM (fun f=>(do pure (f.offset,<-sizeOf f.type):Sem (Nat×Nat)))).run P w= .ok pl w:=by
 intro fs;induction fs with
 | nil=>intro pl h w;simp [placesOf]at h;subst h;rfl
 | cons f fs ih=>
  intro pl h w;simp only [placesOf,Hr]at h;cases hs:cN P f.type with
  | none=>simp [hs]at h
  | some s=>
   cases hp:fs.mapM (fun f=>(cN P f.type).map fun s=>(f.offset,s))with
   | none=>simp [hs,hp]at h
   | some pl'=>
    simp [hs,hp]at h;subst h;have:=ih pl' hp w;simp only [Hr,cP,jA hs,eE,kJ,this]
theorem Du (h:Rel P w0 U S w){A:bC}{a:Act} (hA:BI P U A a){t:TypeId}{parts:Array (Nat×Operand)}{K:Value->Bool} (hk:Nx P A t parts.toList K=true):
 ∃v v',K v=true/\VR U v v'/\∀w,(Instr.build t (parts.map fun p=>(p.1,a.eval p.2))).run P w= .ok v' w:=by
 unfold Nx at hk;split at hk
 ·rename_i zero fields hz hu
  split at hk
  ·rename_i pl xA
   split at hk
   ·rename_i Jq
    obtain⟨ps,hk,VV⟩:=JU h hA hk;have Uy:lM U zero zero:= .flat (by rw [mY]at Jq;exact List.all_eq_true.1 Jq);obtain⟨out,Sy,g1,g2,g3,_⟩:=NE (place':=(pl.toArray[·]?)) (cells':=⟨zero⟩) (by intro i q hq;simpa using hq) hk VV Uy;refine⟨_,.agg Sy,g1,.Xe g3,fun w=>?_⟩;obtain⟨zv,Hy,Sm⟩:=FQ hz w;have ez:zv.cells=⟨zero⟩:=Array.toList_inj.1 Sm;have hpr:=Xi fields.toList pl xA w
    have aRH:(fields.mapM (fun f=>(do pure (f.offset,<-sizeOf f.type):Sem (Nat×Nat)))).run P w= .ok pl.toArray w:=by
     rw [Array.mapM_eq_mapM_toList,Sem.run_map,hpr];rfl
    simp only [Instr.build,cP,Hy,eE,run_underlying hu,aRH,ez];have e2:(parts.map fun p=>(p.1,a.eval p.2)).toList=parts.toList.map fun p=>(p.1,a.eval p.2):=by simp
    rw [e2,g2];rfl
   ·cases hk
  ·cases hk
 ·rename_i zero n elem hz hu
  split at hk
  ·rename_i size hsz
   split at hk
   ·rename_i Jq
    obtain⟨ps,hk,VV⟩:=JU h hA hk;have Uy:lM U zero zero:= .flat (by rw [mY]at Jq;exact List.all_eq_true.1 Jq);obtain⟨out,Sy,g1,g2,g3,_⟩:=NE (place':=fun i=>some (i*size,size)) (cells':=⟨zero⟩) (by intro i q hq;exact hq) hk VV Uy;refine⟨_,.agg Sy,g1,.Xe g3,fun w=>?_⟩;obtain⟨zv,Hy,Sm⟩:=FQ hz w;have ez:zv.cells=⟨zero⟩:=Array.toList_inj.1 Sm;have e2:(parts.map fun p=>(p.1,a.eval p.2)).toList=parts.toList.map fun p=>(p.1,a.eval p.2):=by simp
    simp only [Instr.build,cP,Hy,eE,run_underlying hu,jA hsz,ez];rw [e2,g2];rfl
   ·cases hk
  ·cases hk
 ·cases hk
theorem Rel.YL (h:Rel P w0 U S w){cs cs':List Value} (vX:lM U cs cs') (t:TypeId){K:Nat->St->Bool} (hk:zB S (.cells cs t .exact) K=true):
 ∃U' S' w',K S.n S'=true/\w'=w.alloc (.cells ⟨cs'⟩ t)/\Rel P w0 U' S' w'/\xM U w U' w'/\∃L,U' S.n=some L/\L.b=w.heap.size/\L.s=0:=by
 rw [jB]at hk;obtain⟨h1,h2⟩:=h.aHy vX t 0;exact⟨_,_,_,hk,rfl,h1,h2,_,Rn.mK _ _ _,rfl,rfl⟩
theorem Rel.aK7 (h:Rel P w0 U S w) (ob:Obj){K:Nat->St->Bool} (hk:zB S .dead K=true):
 ∃U' S' w',K S.n S'=true/\w'=w.alloc ob/\Rel P w0 U' S' w'/\xM U w U' w'/\∃L,U' S.n=some L/\L.b=w.heap.size/\L.s=0:=by
 rw [jB]at hk;obtain⟨h1,h2⟩:=h.new .dead ob ⟨w.heap.size,0,0,0⟩ rfl (fun _ _ _=>trivial) (fun _ hi=>nomatch hi);exact⟨_,_,_,hk,rfl,h1,h2,_,Rn.mK _ _ _,rfl,rfl⟩
theorem VR.aNI{i:Nat}{L:Loc} (h:U i=some L){b:Nat} (hb:L.b=b) (hs:L.s=0):VR U (.pointer (some ⟨i,0,none⟩)) (.pointer (some ⟨b,0,none⟩)):=by
 have:=VR.ptr (o:=0) h;rw [hb,hs]at this;exact this
theorem VR.Nz{i:Nat}{L:Loc} (h:U i=some L){b:Nat} (hb:L.b=b) (hs:L.s=0) (n c:Nat):VR U (.slice (some ⟨i,0,none⟩) n c) (.slice (some ⟨b,0,none⟩) n c):=by
 have:=VR.slice (o:=0) (n:=n) (c:=c) h;rw [hb,hs]at this;exact this
theorem aCM (h:Rel P w0 U S w){t:TypeId}{x x':Value}{K:VK} (hk:aAM t x S K=true) (hx:VR U x x'):
 ∃U' v S' v' w',K v S'=true/\(Instr.box t x').run P w= .ok v' w'/\VR U' v v'/\Rel P w0 U' S' w'/\xM U w U' w':=by
 unfold aAM at hk;obtain⟨cs,hk,_,vX,_⟩:=GS hk hx;obtain⟨U',S',w',hk,hw,h1,h2,L,hL,hb,hs⟩:=h.YL vX t hk;exact⟨U',_,S',_,w',hk,by subst hw;simp [Instr.box,newVar,newRow],.aNI hL hb hs,h1,h2⟩
theorem Xj (h:Rel P w0 U S w){t:TypeId}{K:VK} (hk:VT P t S K=true):
 ∃U' v S' v' w',K v S'=true/\(Instr.alloc t true (.tuple #[])).run P w= .ok v' w'/\VR U' v v'/\Rel P w0 U' S' w'/\xM U w U' w':=by
 unfold VT at hk;split at hk
 ·rename_i zero hz
  split at hk
  ·rename_i Jq
   rw [aEv]at hk;have Uy:lM U zero zero:= .flat (by rw [mY]at Jq;exact List.all_eq_true.1 Jq);obtain⟨U',S',w',hk,hw,h1,h2,L,hL,hb,hs⟩:=h.YL Uy t hk;obtain⟨zv,Hy,Sm⟩:=FQ hz w;have ez:zv.cells=⟨zero⟩:=Array.toList_inj.1 Sm;exact⟨U',_,S',_,w',hk,by subst hw;simp [Instr.alloc,Hy,newVar,newRow,ez],.aNI hL hb hs,h1,h2⟩
  ·cases hk
 ·cases hk
theorem Oc{t:TypeId}{z:List Value} (h:wM P t=some z){i:TypeInfo} (hi:P.info? t=some i):∃v,i.zero=some v/\v.cells.toList=z:=by
 unfold wM at h;rw [hi]at h;cases hz:i.zero with
 | none=>simp [hz]at h
 | some v=>simp [hz]at h;exact⟨v,rfl,h⟩
theorem PV (zero:List Value) (z:Array Value) (hz:z.toList=zero) (n:Nat) (h0:zero≠[]):(Array.range (n*zero.length)).map (fun i=>z[i%z.size]!)=⟨(List.replicate n zero).flatten⟩:=by
 apply Array.toList_inj.1;have hsz:z.size=zero.length:=by rw [<-hz];rfl
 have Lf:0<zero.length:=List.length_pos_iff.2 h0;apply xE;intro j;simp only [Array.toList_map,Array.toList_range,hsz];have hlen:(List.replicate n zero).flatten.length=n*zero.length:=by simp
 by_cases hj:j<n*zero.length
 ·rw [dO,Bi hj]
  have hm:j%zero.length<zero.length:=iY _ Lf
  have e1:z[j%zero.length]! =zero[j%zero.length]:=by
   rw [getElem!_pos z _ (by omega)];subst hz;rfl
  have e2:∀n j,j<n*zero.length->(List.replicate n zero).flatten[j]? =some (zero[j%zero.length]'(iY _ Lf)):=by
   intro n;induction n with
   | zero=>intro j hj;simp at hj
   | succ n ih=>
    intro j hj;simp only [IF,OS];by_cases h1:j<zero.length
    ·rw [gI h1,aQ h1]
     congr 1;simp [VJ h1]
    ·rw [kI (by omega),ih (j-zero.length) (by rw [Bs]at hj;omega)]
     congr 1
     simp only [Nat.mod_eq_sub_mod (show j>=zero.length by omega)]
  rw [e2 n j hj];simp [e1]
 ·rw [FK (by simp;omega),FK (by rw [hlen];omega)]
theorem Hz (h:Rel P w0 U S w){t:TypeId}{l l' c c':Value}{K:VK} (hk:xJ P t l c S K=true) (hl:VR U l l') (hc:VR U c c'):
 ∃U' v S' v' w',K v S'=true/\(Instr.makeSlice t l' c').run P w= .ok v' w'/\VR U' v v'/\Rel P w0 U' S' w'/\xM U w U' w':=by
 unfold xJ at hk;split at hk
 ·rename_i k1 l k2 c
  rw [hl.of_flat rfl,hc.of_flat rfl];split at hk
  ·rename_i elem he
   have hu:=gE he;split at hk
   ·rename_i info zero hi hz
    split at hk
    ·rename_i q h1 h2 h3 h4 h5
     have h1:=cG h1;have h2:=cG h2;have h3:=cG h3;have h4:=dE h4;split at hk
     ·rename_i Jq
      obtain⟨zv,hzi,Sm⟩:=Oc hz hi;have oJ:zero≠[]:=by intro e;rw [e]at h4;simp at h4;omega
      have Xk:=PV zero zv.cells Sm c oJ
      have h2':(info.bytes:Int)*(c:Int)<=1099511627776:=by
       have:((info.bytes*c:Nat):Int)<=1099511627776:=by omega
       rwa [Int.natCast_mul]at this
      have hr:=run_make (P:=P) w t elem info zv hu hi hzi k1 k2 l c (by omega) (by omega) (by omega) (by omega);simp only [Int.toNat_natCast]at hr;have hm:madeCells zv.cells (c*info.size)=⟨(List.replicate c zero).flatten⟩:=by rw [<-Xk,h4];rfl
      split at hk
      ·rw [GU]at hk
       have Uy:lM U zero zero:= .flat (by rw [mY]at Jq;exact List.all_eq_true.1 Jq);obtain⟨U',S',w',hk,hw,g1,g2,L,hL,hb,hs⟩:=h.YL (Uy.flatten c) elem hk;refine⟨U',_,S',_,w',hk,hr.trans ?_,.Nz hL hb hs l c,g1,g2⟩;rw [hw,hm]
      ·obtain⟨U',S',w',hk,hw,g1,g2,L,hL,hb,hs⟩:=h.aK7 (.cells ⟨(List.replicate c zero).flatten⟩ elem) hk
       refine⟨U',_,S',_,w',hk,hr.trans ?_,.Nz hL hb hs l c,g1,g2⟩;rw [hw,hm]
     ·cases hk
    ·cases hk
   ·cases hk
  ·cases hk
 ·cases hk
end mem
section mem
variable{P:Program}{w0:World}{U:Rn}{S:St}{w:World}
theorem Dv (h:Rel P w0 U S w){A:bC}{a:Act} (hA:BI P U A a){t:TypeId}{len:Nat}{parts:Array (Nat×Operand)}{K:VK} (hk:BY P A t len parts.toList S K=true):
 ∃U' v S' v' w',K v S'=true/\(Instr.buildSlice t len (parts.map fun p=>(p.1,a.eval p.2))).run P w= .ok v' w'/\VR U' v v'/\Rel P w0 U' S' w'/\xM U w U' w':=by
 unfold BY at hk;split at hk
 ·rename_i elem he
  have hu:=gE he;split at hk
  ·rename_i size zero hsz hz
   split at hk
   ·rename_i h1 h2
    have h1:=cG h1;have h2:=dE h2;split at hk
    ·rename_i Jq
     have Uy:lM U zero zero:= .flat (by rw [mY]at Jq;exact List.all_eq_true.1 Jq);rw [GU]at hk;obtain⟨ps,hk,VV⟩:=JU h hA hk;obtain⟨out,Sy,g1,g2,g3,_⟩:=NE (place':=fun i=>some (i*(size+1),size+1)) (cells':=⟨(List.replicate len zero).flatten⟩) (by intro i q hq;exact hq) hk VV (Uy.flatten len);obtain⟨U',S',w',hk,hw,r1,r2,L,hL,hb,hs⟩:=h.YL g3 elem g1;refine⟨U',_,S',_,w',hk,?_,.Nz hL hb hs len len,r1,r2⟩;obtain⟨zv,Hy,Sm⟩:=FQ hz w;have oJ:zero≠[]:=by intro e;rw [e]at h2;simp at h2
     have e2:(parts.map fun p=>(p.1,a.eval p.2)).toList=parts.toList.map fun p=>(p.1,a.eval p.2):=by simp
     have hc:¬len*(size+1)>2 ^ 24:=by omega
     rw [hw];by_cases h0:len*(size+1)=0
     ·have hl0:len=0:=by
       rcases Nat.mul_eq_zero.1 h0 with h0 | h0
       ·exact h0
       ·omega
      subst hl0;have e3:(⟨(List.replicate 0 zero).flatten⟩:Array Value)= #[]:=by simp
      rw [e3]at g2;have e4:∀f:Nat->Value,(Array.range 0).map f= #[]:=fun f=>by simp
      simp only [Instr.buildSlice,cP,run_underlying hu,eE,jA hsz,Bq,e4,e2,g2,newRow];rfl
     ·have Xk:=PV zero zv.cells Sm len oJ
      rw [h2]at Xk;simp only [Instr.buildSlice,cP,run_underlying hu,eE,jA hsz,aG hc,aG h0,Hy,kJ,Xk,e2,g2,newRow];rfl
    ·cases hk
   ·cases hk
  ·cases hk
 ·cases hk
end mem
section conv
variable{P:Program}{w0:World}{U:Rn}{S:St}{w:World}
theorem Xl (l:List UInt8) (k:List Value->Bool):aHw l k=k (l.map fun b=> .int .u8 (b.toNat:Int)):=by
 induction l generalizing k with
 | nil=>rfl
 | cons b l ih=>
  show bV b.toNat (fun n=>aHw l fun t=>k (.int .u8 (.ofNat n)::t))=_;rw [bK,ih];rfl
theorem Jr:∀{l:List Value} {k:List UInt8->Bool},aCK l k=true->∃ns:List Nat,k (ns.map UInt8.ofNat)=true/\l=ns.map (fun n=> .int .u8 (.ofNat n)):=by
 intro l;induction l with
 | nil=>intro k hk;exact⟨[],hk,rfl⟩
 | cons v l ih=>
  intro k hk;unfold aCK at hk;rw [bU]at hk;split at hk
  ·rename_i n
   obtain⟨ns,h1,h2⟩:=ih (k:=fun t=>k (UInt8.ofNat n::t)) hk;exact⟨n::ns,h1,by rw [h2];rfl⟩
  ·cases hk
theorem lM.aEw{l l':List Value} (h:lM U l l') (hf:∀v∈l,bW v=true):l'=l:=by
 apply xE;intro k;cases hk:l[k]? with
 | none=>exact h.get_none hk
 | some x=>
  obtain⟨x',Mo,hr⟩:=h.get hk;rw [Mo,hr.of_flat (hf x (CW hk))]
theorem aAP (h:Rel P w0 U S w){src dst:TypeId}{x x':Value}{K:VK} (hk:Jn P src dst x S K=true) (hx:VR U x x'):
 ∃U' v S' v' w',K v S'=true/\(convert src dst x').run P w= .ok v' w'/\VR U' v v'/\Rel P w0 U' S' w'/\xM U w U' w':=by
 unfold Jn at hk;split at hk
 ·rename_i kd n
  cases hx.of_flat rfl;split at hk
  ·rename_i d k hs hd
   unfold OV at hk;rw [nU,KW]at hk;refine⟨U,_,S,_,w,hk,?_,.flat rfl,h,.refl U w⟩;simp [convert,run_underlying hs,run_underlying hd,Conv.intToInt]
  ·cases hk
 ·rename_i s
  cases hx.of_flat rfl;split at hk
  ·rename_i hs hd
   refine⟨U,_,S,_,w,hk,?_,.flat rfl,h,.refl U w⟩;simp [convert,run_underlying hs,run_underlying hd]
  ·rename_i e hs hd
   split at hk
   ·rename_i he h1
    rw [Xl,nT,jB]at hk;have aCN:=grownCap_ge w s.size 0 e;generalize hcc:grownCap w s.size 0 e=cc at aCN
    let bs:List Value:=s.data.toList.map (fun b:UInt8=>Value.int .u8 (b.toNat:Int))
    let zs:List Value:=List.replicate (cc-s.size) (.int .u8 0)
    have hbl:bs.length=s.size:=by show(List.map _ _).length=_;rw [lR];rfl
    have Mp:zs.length=cc-s.size:=OQ;have aHz:bytesRow s cc=⟨bs++zs⟩:=by apply Array.toList_inj.1;simp [bytesRow,bs,zs]
    have hsz:(bytesRow s cc).size=cc:=by rw [aHz];show(bs++zs).length=_;rw [jU];omega
    have RQ:lM U bs bs:= .flat (by simp [bs,bW]);obtain⟨r1,r2⟩:=h.drew.aAQ (more:=zs) RQ e h1 ((bytesRow s cc).size,(bytesRow s cc).size+1) (by intro x hx;rw [jU]at hx;omega) [] (by simp);have fN:=run_bytes_of_string w src dst e s hs hd he;rw [hcc,aHz]at fN;rw [aHz]at r1 r2;refine⟨_,_,_,_,_,hk,fN,?_,r1,(xM.drew U w).trans r2⟩;have hL:=Rn.mK U S.n ⟨w.drew.heap.size,0,(bs++zs).length,1⟩;have:=VR.rF (o:=0) (n:=s.size) (c:=s.size) (c':=cc) hL aCN (bR _) (by simp only [jU];omega) Nat.one_pos;rw [lR];exact this
   ·cases hk
  ·cases hk
 ·rename_i n c
  cases hx.of_flat rfl;split at hk
  ·rename_i e hs hd
   split at hk
   ·rename_i he
    exact⟨U,_,S,_,w,hk,run_convert_bytes_nil w src e hs he _ _ dst hd,.flat rfl,h,.refl U w⟩
   ·cases hk
  ·cases hk
 ·rename_i i o sp len c
  split at hk
  ·cases hk
  ·rename_i e hs hd AO
   split at hk
   ·rename_i he
    rcases hx.mQ with ⟨L,c',hL,rfl,_⟩ | ⟨⟨s1,h1⟩,rfl,rfl,_⟩
    ·obtain⟨vs,e',ck,ho,hle,hk⟩:=FR hk
     obtain⟨l',Sn,hlen,hc⟩:=h.KG ho hL hle;obtain⟨ns,hk,hns⟩:=Jr hk;rw [hns]at Sn;have aNJ:l'=ns.map (fun n=> .int .u8 (.ofNat n)):=Sn.aEw (by simp [bW]);refine⟨U,_,S,_,w,hk,?_,.flat rfl,h,.refl U w⟩;rw [run_convert_bytes_string w src dst e _ _ _ hs he hd];have RD:=run_loadCells (P:=P) ⟨L.b,L.s+o,none⟩ l' hlen hc;rw [aNJ]at RD;have e1:(⟨ns.map (fun n=>Value.int .u8 (.ofNat n))⟩:Array Value)=((ns.map Int.ofNat).map (Value.int .u8)).toArray:=by simp [List.map_map,Function.comp_def]
     rw [e1]at RD;rw [run_bytesToString w _ _ _ _ RD]
     congr 2
     have hf:∀(l:List Nat) (r:ByteArray),(l.map Int.ofNat).foldl (fun r (n:Int)=>r.push (UInt8.ofNat n.toNat)) r=⟨r.data++(l.map UInt8.ofNat).toArray⟩:=by
      intro l;induction l with
      | nil=>intro r;simp
      | cons b l ih=>intro r;simp only [Bp,Nr,ih];simp [ByteArray.push]
     rw [hf];have he0:ByteArray.empty.data= #[]:=rfl;rw [he0];simp
    ·subst h1;exact aX rfl (AO _)
   ·cases hk
  ·cases hk
 ·cases hk
end conv
end Go.Am
namespace Go.Am
open Go.RowKit Go.MapKept
section maps
variable{P:Program}{w0:World}{U:Rn}{S:St}{w:World}
theorem Rel.aK8 (h:Rel P w0 U S w){i:Nat}{o o':iW} (ho:S.obj i=some o) (hd:o.BJ=false) (hr:o.reads=false) (hol:o.olds=[]){L:Loc} (hL:U i=some L) (hb:w0.heap.size<=L.b)
 (aNK:o'.olds=[]) (ob:Obj) (uR:(w.putObj L.b ob).heap[L.b]? =some ob->IK P w0 U (w.putObj L.b ob) i o'):Rel P w0 U (S.set i o') (w.putObj L.b ob)/\xM U w U (w.putObj L.b ob):=by
 have hlt:=h.loc i L hL;have uR:=uR (World.putObj_heap_same hlt)
 have oJ:∀j x,j≠i->S.obj j=some x->x.BJ=false->∀M,U j=some M->M.b≠L.b:=by
  intro j x hji hx hxd M hM e;rcases h.sep i j o x L M (aO hji) ho hx hd hxd hL hM e.symm with ⟨h1,_⟩ | h1 | h1
  ·rw [hr]at h1;cases h1
  ·rw [hol]at h1;cases h1
  ·cases x with
   | cells vs t k=>
    cases k with
    | grown olds=>
     obtain⟨_,h2⟩:=h.old j vs t olds hx i h1;rcases h2 o ho with h3 | ⟨ws,t',h3,_⟩
     ·rw [h3]at hd;cases hd
     ·rw [h3]at hr;cases hr
    | _=>cases h1
   | _=>cases h1
 have DH:∀j x,(S.set i o').obj j=some x->(j=i/\x=o')\/(j≠i/\S.obj j=some x):=fun j x hx=>by
  rw [GV]at hx;by_cases e:j=i
  ·rw [aJ e]at hx;injection hx with hx;exact .inl ⟨e,hx.symm⟩
  ·rw [aG e]at hx;exact .inr ⟨e,hx⟩
 refine h.aK (S':=S.set i o') hb ⟨i,L,hL,rfl⟩ rfl (putObj_size _ _) (fun c hc=>yF hc) rfl rfl rfl (fun j x hx=>?_) (fun a b x y M N hab hx hy hxd hyd hM hN Sz=>?_) (fun j vs e olds hj q hq=>?_)
 ·rcases DH j x hx with ⟨rfl,rfl⟩ | ⟨e,hx⟩
  ·exact .inr (.inr ⟨h.lt j o ho,uR⟩)
  ·cases hxd:x.BJ with
   | true=>exact .inl ⟨rfl,h.lt j x hx⟩
   | false=>exact .inr (.inl ⟨hx,oJ j x e hx hxd⟩)
 ·rcases DH a x hx with ⟨e1,_⟩ | ⟨ea,ZI⟩<;>rcases DH b y hy with ⟨e2,_⟩ | ⟨eb,hy1⟩
  ·exact aX (e1.trans e2.symm) hab
  ·rw [e1,hL]at hM;injection hM with hM;subst hM;exact aX Sz.symm (oJ b y eb hy1 hyd N hN)
  ·rw [e2,hL]at hN;injection hN with hN;subst hN;exact aX Sz (oJ a x ea ZI hxd M hM)
  ·exact h.sep a b x y M N hab ZI hy1 hxd hyd hM hN Sz
 ·rcases DH j _ hj with ⟨rfl,e2⟩ | ⟨e,hj⟩
  ·rw [<-e2]at aNK;simp only [iW.olds]at aNK;subst aNK;cases hq
  ·obtain⟨h1,h2⟩:=h.old j vs _ olds hj q hq
   refine⟨h1,fun x hx=>?_⟩;rcases DH q x hx with ⟨rfl,rfl⟩ | ⟨e',hx⟩
   ·rcases h2 o ho with h3 | ⟨ws,t',h3,_⟩
    ·rw [h3]at hd;cases hd
    ·rw [h3]at hr;cases hr
   ·exact h2 x hx
theorem KH{m:Value}{k:Option Nat->List MapEntry->Nat->Bool} (hk:Xb S m k=true):
 (m= .map none/\k none [] 0=true)\/∃r es c,m= .map (some r)/\S.obj r=some (.map es c)/\k (some r) es c=true:=by
 unfold Xb at hk;split at hk
 ·exact .inl ⟨rfl,hk⟩
 ·rename_i r
  rw [mZ]at hk;cases ho:S.h.get r with
  | none=>rw [ho]at hk;cases hk
  | some o=>
   rw [ho]at hk;cases o with
   | map es c=>exact .inr ⟨r,es,c,rfl,ho,hk⟩
   | _=>cases hk
 ·cases hk
theorem VR.JV{r:Nat}{v':Value} (h:VR U (.map (some r)) v'):∃L,U r=some L/\v'= .map (some L.b):=by
 cases h with
 | flat h=>simp [bW]at h
 | map h=>exact⟨_,h,rfl⟩
theorem Rel.map (h:Rel P w0 U S w){r:Nat}{es:List MapEntry}{c:Nat} (ho:S.obj r=some (.map es c)){L:Loc} (hL:U r=some L):∃jO,w0.heap.size<=L.b/\w.heap[L.b]? =some (.map jO c)/\gR U es jO.toList:=by
 obtain⟨M,jO,h1,h2,h3,h4⟩:=h.OY r _ ho;rw [hL]at h1;injection h1 with h1;subst h1;exact⟨jO,h2,h3,h4⟩
theorem Dw{t:TypeId} (h:sA P t=true):RN P t=none:=by
 cases hs:RN P t with
 | none=>rfl
 | some fs=>obtain⟨hu,_⟩:=HG hs;unfold sA at h;rw [hu]at h;cases h
theorem Xm{t:TypeId} (h:sA P t=true){a b:Value}{k:Bool->Bool} (hk:II P t a b k=true):wN P t a b k=true:=by
 unfold II at hk;split at hk
 ·unfold pN at hk
  simp only [Dw h]at hk;cases hk
 ·exact hk
theorem aAR{t:TypeId}{kd:TypeDesc} (hu:P.underlying t=some kd){a b:Value}{k:Bool->Bool} (hk:wN P t a b k=true):∃e,k e=true/\Instr.sameNow kd a b=some e:=by
 unfold wN at hk;rw [hu]at hk;split at hk
 ·rename_i q hq
  injection hq with hq;subst hq;split at hk
  ·rename_i j x l y
   split at hk
   ·rename_i hj
    have:=KX hj;subst this;rw [pH,RR]at hk;exact⟨_,hk,by simp [Instr.sameNow]⟩
   ·cases hk
  ·cases hk
 ·rename_i hq
  injection hq with hq;subst hq;split at hk
  ·rename_i x y
   rw [pH,RT]at hk
   have e:(x==y)=(x.data.toList==y.data.toList):=by
    rw [Ns,bytes_beq,beq_iff_eq];exact⟨fun h=>by rw [h],fun h=>ByteArray.ext (Array.toList_inj.1 h)⟩
   exact⟨_,hk,by rw [<-e];rfl⟩
  ·cases hk
 ·rename_i hq
  injection hq with hq;subst hq;split at hk
  ·rw [pH]at hk
   exact⟨_,hk,rfl⟩
  ·cases hk
 ·cases hk
def findAux (P:Program) (t:TypeId) (key:Value) (k:Option (Nat×MapEntry)->Bool) (es:List MapEntry):Nat->Bool:=
 gW (β:=Nat->Bool) (fun _=>k none) (fun e _ ih i=>II P t key e.key fun b=>match b with | true=>k (some (i,e)) | false=>bV (Nat.succ i) ih) es
def Uz (i:Nat) (l l':List MapEntry) (r:Option (Nat×MapEntry)) (r':Option (Nat×Value)):Prop:=
 (r=none/\r'=none)\/∃j e e',r=some (i+j,e)/\l[j]? =some e/\l'[j]? =some e'/\r'=some (i+j,e'.val)
theorem gR.cons_inv{e:MapEntry}{l l':List MapEntry} (h:gR U (e::l) l'):∃e' t',l'=e'::t'/\VW U e e'/\gR U l t':=by
 cases l' with
 | nil=>have:=h.1;simp at this
 | cons e' t'=>exact⟨e',t',rfl,h.2 0 e e' rfl rfl,by simpa using h.1,fun k x y a b=>h.2 (k+1) x y (by simpa using a) (by simpa using b)⟩
theorem Uz.step{i:Nat}{e e':MapEntry}{l l':List MapEntry}{r:Option (Nat×MapEntry)}{r':Option (Nat×Value)} (h:Uz (i+1) l l' r r'):Uz i (e::l) (e'::l') r r':=by
 rcases h with h | ⟨j,x,x',h1,h2,h3,h4⟩
 ·exact .inl h
 ·exact .inr ⟨j+1,x,x',by rw [h1];congr 2;omega,by simpa using h2,by simpa using h3,by rw [h4];congr 2;omega⟩
theorem Ta{t:TypeId}{kd:TypeDesc} (hp:sA P t=true) (hu:P.underlying t=some kd){key:Value}{k:Option (Nat×MapEntry)->Bool}:∀(l l':List MapEntry) (i:Nat),findAux P t key k l i=true->gR U l l'->
 ∃r r',k r=true/\Instr.findNow kd key l' i=some r'/\Uz i l l' r r':=by
 intro l;induction l with
 | nil=>
  intro l' i hk hl;have:l'=[]:=rY (by simpa using hl.1.symm);subst this;exact⟨none,none,hk,rfl,.inl ⟨rfl,rfl⟩⟩
 | cons e l ih=>
  intro l' i hk hl;obtain⟨e',t',rfl,he,ht⟩:=hl.cons_inv;obtain⟨b,hb,hs⟩:=aAR hu (Xm hp (show II P t key e.key (fun b=>match b with | true=>k (some (i,e)) | false=>bV (Nat.succ i) (findAux P t key k l))=true from hk));rw [<-he.1]at hs;cases b with
  | true=>exact⟨_,_,hb,by simp only [Instr.findNow,hs];rfl,.inr ⟨0,e,e',rfl,rfl,rfl,rfl⟩⟩
  | false=>
   simp only [bK]at hb;obtain⟨r,r',h1,h2,h3⟩:=ih t' (i+1) hb ht;exact⟨r,r',h1,by simp only [Instr.findNow,hs,h2],h3.step⟩
theorem Od{t:TypeId}{fs:List Field} (hp:RN P t=some fs){key:Value} (xN:kM key=true){xs:Array Value} (hx:key= .agg xs){k:Option (Nat×MapEntry)->Bool}:∀(l l':List MapEntry) (i:Nat),
 findAux P t key k l i=true->gR U l l'->∃r r',k r=true/\(∀w,(Instr.findAsking t key l' i).run P w= .ok r' w)/\Uz i l l' r r':=by
 intro l;induction l with
 | nil=>
  intro l' i hk hl;have:l'=[]:=rY (by simpa using hl.1.symm);subst this;exact⟨none,none,hk,fun w=>rfl,.inl ⟨rfl,rfl⟩⟩
 | cons e l ih=>
  intro l' i hk hl;obtain⟨e',t',rfl,he,ht⟩:=hl.cons_inv;have hk:II P t key e.key (fun b=>match b with | true=>k (some (i,e)) | false=>bV (Nat.succ i) (findAux P t key k l))=true:=hk
  have hk:pN P t key e.key (fun b=>match b with | true=>k (some (i,e)) | false=>bV (Nat.succ i) (findAux P t key k l))=true:=by
   unfold II at hk;split at hk
   ·exact hk
   ·unfold wN at hk
    rw [(HG hp).1]at hk;cases hk
  obtain⟨b,hb,hs,_⟩:=RU (U:=U) hk (VR.kM xN) (VR.kM he.2.1);rw [<-he.1]at hs;cases b with
  | true=>exact⟨_,_,hb,fun w=>by simp [Instr.findAsking,hs],.inr ⟨0,e,e',rfl,rfl,rfl,rfl⟩⟩
  | false=>
   simp only [bK]at hb;obtain⟨r,r',h1,h2,h3⟩:=ih t' (i+1) hb ht;exact⟨r,r',h1,fun w=>by simp [Instr.findAsking,hs,h2],h3.step⟩
theorem BK{t:TypeId}{key:Value} (h:TK P t key=true):kM key=true/\(sA P t=true\/sA P t=false/\∃fs cs,RN P t=some fs/\key= .agg cs/\fs.length<=cs.toList.length):=by
 unfold TK at h;split at h
 ·rename_i hf
  refine⟨hf,?_⟩;split at h
  ·exact .inl (by assumption)
  ·rename_i h1
   split at h
   ·rename_i fs cs h2
    exact .inr ⟨h1,fs,cs,h2,rfl,cG h⟩
   ·cases h
 ·cases h
theorem NF{t:TypeId}{key:Value} (xN:TK P t key=true){l l':List MapEntry}{k:Option (Nat×MapEntry)->Bool} (hk:Jo P t key l k=true) (hl:gR U l l'):
 ∃r r',k r=true/\(∀w,(Instr.findKey t key l').run P w= .ok r' w)/\Uz 0 l l' r r':=by
 have hk:findAux P t key k l 0=true:=hk;obtain⟨hf,hp | ⟨_,fs,cs,hs,hc,_⟩⟩:=BK xN
 ·cases hu:P.underlying t with
  | none=>unfold sA at hp;rw [hu]at hp;cases hp
  | some kd=>
   obtain⟨r,r',h1,h2,h3⟩:=Ta hp hu l l' 0 hk hl;exact⟨r,r',h1,fun w=>run_findKey hu h2,h3⟩
 ·obtain⟨r,r',h1,h2,h3⟩:=Od hs hf hc l l' 0 hk hl
  refine⟨r,r',h1,fun w=>?_,h3⟩;have hu:=(HG hs).1;cases l' with
  | nil=>
   have h2:=h2 w;simp only [Instr.findAsking,kJ]at h2;injection h2 with h2;rw [<-h2];exact run_findKey hu rfl
  | cons e l'=>
   simp only [Instr.findKey,cP,run_underlying hu,eE];have:Instr.findNow (.struct (P.fieldsOf t)) key (e::l') 0=none:=by simp [Instr.findNow,Instr.sameNow]
   rw [this];exact h2 w
theorem VX{t:TypeId} (hp:sA P t=true) (em:Bool) (n:Nat) (v:Value) (w:World):(Instr.checkKey em (n+1) t v).run P w= .ok () w:=by
 unfold sA at hp;split at hp<;>first | (cases hp;done) | (rename_i hu;cases v<;>simp [Instr.checkKey,run_underlying hu])
theorem aAS (em:Bool) (n:Nat) (cs:Array Value) (w:World):∀(fs:List Field) (i:Nat),xK P i fs=true->i+fs.length<=cs.toList.length->
 (forIn fs PUnit.unit (fun f (_:PUnit)=>do
  if f.name≠ "_" then Instr.checkKey em (n+1) f.type (<-part f.type cs f.offset)
  pure (ForInStep.yield PUnit.unit):Field->PUnit->Sem (ForInStep PUnit))).run P w= .ok PUnit.unit w:=by
 intro fs;induction fs with
 | nil=>intro i _ _;rfl
 | cons f fs ih=>
  intro i hp hl;simp only [xK,dR,beq_iff_eq,bne_iff_ne]at hp;obtain⟨⟨⟨aEx,aFY⟩,xA⟩,xO⟩:=hp;simp only [oU]at hl;have hlt:i<cs.toList.length:=by omega
  have hg:cs.toList[i]? =some cs.toList[i]:=aQ hlt;simp only [List.forIn_cons,cP,aEx,ne_eq,not_false_eq_true,if_true,aFY,VY xA hg,eE,VX xA,kJ];exact ih (i+1) xO (by omega)
theorem iM{t:TypeId}{key:Value} (xN:TK P t key=true) (em:Bool) (w:World):(Instr.checkKey em 10000 t key).run P w= .ok () w:=by
 obtain⟨hf,hp | ⟨_,fs,cs,hs,rfl,hlen⟩⟩:=BK xN
 ·exact VX hp em 9999 key w
 ·obtain⟨hu,h2,h3,_,_⟩:=HG hs
  show(Instr.checkKey em (9999+1) t (.agg cs)).run P w=_;unfold Instr.checkKey;simp only [cP,run_underlying hu,eE];have:=aAS (P:=P) em 9998 cs w fs 0 h3 (by omega);rw [<-h2,Array.forIn_toList]at this;rw [this];rfl
end maps
section maps
variable{P:Program}{w0:World}{U:Rn}{S:St}{w:World}
theorem VZ{n:Nat}{a b:Value} (ha:bW a=true) (hb:bW b=true) (h:Instr.sameBits n a b=true):a=b:=by
 cases a<;>first | (simp [bW]at ha;done) | skip
 all_goals (cases b<;>first | (simp [bW]at hb;done) | (simp [Instr.sameBits]at h;done) | skip)
 all_goals first
  | rfl
  | (simp [Instr.sameBits]at h;simp [h];done)
  | (rw [Instr.sameBits,bytes_beq]at h;rw [h];done)
  | (rename_i x y;cases x<;>cases y<;>first | rfl | (simp [bW]at ha;done) | (simp [bW]at hb;done))
theorem WA{n:Nat}{a b:Value} (ha:kM a=true) (hb:kM b=true) (h:Instr.sameBits (n+1) a b=true):a=b:=by
 by_cases hA:∃x,a= .agg x
 ·obtain⟨x,rfl⟩:=hA
  cases b with
  | agg y=>
   simp only [Instr.sameBits,dR,beq_iff_eq]at h;obtain⟨hs,h⟩:=h;have ha:∀v∈x.toList,bW v=true:=List.all_eq_true.1 ha;have hb:∀v∈y.toList,bW v=true:=List.all_eq_true.1 hb;have hs:x.toList.length=y.toList.length:=hs
   have h:∀(l m:List Value),l.length=m.length->(∀v∈l,bW v=true)->(∀v∈m,bW v=true)->((l.zip m).all fun(a,b)=>Instr.sameBits n a b)=true->l=m:=by
    intro l;induction l with
    | nil=>intro m hm _ _ _;exact(rY (by simpa using hm.symm)).symm
    | cons a l ih=>
     intro m hm h1 h2 h3;cases m with
     | nil=>simp at hm
     | cons b m=>
      simp only [List.zip_cons_cons,VM,dR]at h3;rw [VZ (h1 a (.head _)) (h2 b (.head _)) h3.1,ih m (by simpa using hm) (fun v hv=>h1 v (.tail _ hv)) (fun v hv=>h2 v (.tail _ hv)) h3.2]
   rw [Array.toList_inj.1 (h _ _ hs ha hb (by assumption))]
  | _=>simp [Instr.sameBits]at h
 ·have fa:bW a=true:=by cases a<;>first | exact ha | exact aX ⟨_,rfl⟩ hA
  by_cases hB:∃x,b= .agg x
  ·obtain⟨x,rfl⟩:=hB
   cases a<;>first | (simp [Instr.sameBits]at h;done) | exact aX ⟨_,rfl⟩ hA
  ·have fb:bW b=true:=by cases b<;>first | exact hb | exact aX ⟨_,rfl⟩ hB
   exact VZ fa fb h
theorem gR.aCO{l l':List MapEntry} (h:gR U l l'){i:Nat}{e e' x:MapEntry} (hi:l[i]? =some e) (Ce:l'[i]? =some e') (f:MapEntry->MapEntry) (hx:VW U x (f e')):gR U (l.set i x) (l'.modify i f):=by
 refine⟨by simp [h.1],fun k a b ha hb=>?_⟩;rw [Nn]at ha;rw [List.getElem?_modify]at hb;by_cases hk:i=k
 ·subst hk
  have:=(List.getElem?_eq_some_iff.1 hi).1;rw [aJ rfl,aJ this]at ha;rw [Ce]at hb;simp at ha hb;subst ha hb;exact hx
 ·rw [aG hk]at ha
  cases hl:l'[k]? with
  | none=>rw [hl]at hb;cases hb
  | some y=>rw [hl]at hb;simp [hk]at hb;subst hb;exact h.2 k a y ha hl
theorem gR.aRI{l l':List MapEntry} (h:gR U l l'){i:Nat}{e e':MapEntry} (hi:l[i]? =some e) (Ce:l'[i]? =some e') (f:MapEntry->MapEntry) (hx:VW U e (f e')):gR U l (l'.modify i f):=by
 have:=h.aCO hi Ce f hx
 have e1:l.set i e=l:=by
  apply xE;intro k;rw [Nn];split
  ·rename_i hk;subst hk;split
   ·exact hi.symm
   ·rename_i hl;exact aX (List.getElem?_eq_some_iff.1 hi).1 hl
  ·rfl
 rwa [e1]at this
theorem gR.push{l l':List MapEntry} (h:gR U l l'){e e':MapEntry} (he:VW U e e'):gR U (l++[e]) (l'++[e']):=by
 refine⟨by simp [h.1],fun k a b ha hb=>?_⟩;by_cases hk:k<l.length
 ·rw [gI hk]at ha
  rw [gI (by rw [<-h.1];exact hk)]at hb;exact h.2 k a b ha hb
 ·rw [kI (by omega)]at ha
  rw [kI (by rw [<-h.1];omega),<-h.1]at hb
  have:k-l.length=0:=by
   have:=(List.getElem?_eq_some_iff.1 ha).1;simpa using this
  rw [this]at ha hb;simp at ha hb;subst ha hb;exact he
theorem gR.erase{l l':List MapEntry} (h:gR U l l') (i:Nat):gR U (l.eraseIdx i) (l'.eraseIdx i):=by
 refine⟨by simp [List.length_eraseIdx,h.1],fun k a b ha hb=>?_⟩;rw [List.getElem?_eraseIdx]at ha hb;split at ha
 ·rename_i hk;rw [aJ hk]at hb;exact h.2 k a b ha hb
 ·rename_i hk;rw [aG hk]at hb;exact h.2 _ a b ha hb
theorem BZ{t kt et:TypeId} (h:IJ P t=some (kt,et)):P.underlying t=some (.map kt et):=by
 unfold IJ at h;split at h
 ·rename_i hu;injection h with h;injection h with h1 h2;subst h1 h2;exact hu
 ·cases h
theorem Ia{t:TypeId}{z:Value} (h:zeroV P t=some z) (w:World):(zeroValue t).run P w= .ok z w:=by
 unfold zeroV at h;cases hi:P.info? t with
 | none=>rw [hi]at h;cases h
 | some i=>rw [hi]at h;simp [zeroValue,aHA hi,show i.zero=some z from h]
theorem VR.key{kt:TypeId}{key Of:Value} (h:VR U key Of) (hk:TK P kt key=true):Of=key:=h.aHB (BK hk).1
theorem ZZ (h:Rel P w0 U S w){t:TypeId}{x x' ix ix':Value}{ok:Bool}{K:VK} (hk:YK P t x ix ok S K=true) (hx:VR U x x') (hi:VR U ix ix'):
 ∃v v',K v S=true/\VR U v v'/\(Instr.lookup t x' ix' ok).run P w= .ok v' w:=by
 unfold YK at hk;split at hk
 ·rename_i kt et hm
  have hu:=BZ hm;split at hk
  ·rename_i zero xN hz
   rw [hi.key xN]
   have main:∀(es:List MapEntry) (jO:Array MapEntry),gR U es jO.toList->Jo P kt ix es (fun r=>match r with
    | some (_,e)=>match(generalizing:=false) ok with | true=>K (.tuple ⟨[e.val,.bool true]⟩) S | false=>K e.val S
    | none=>match kM zero with
     | true=>match(generalizing:=false) ok with | true=>K (.tuple ⟨[zero,.bool false]⟩) S | false=>K zero S
     | false=>false)=true->
    ∃v v',K v S=true/\VR U v v'/\(do
     Instr.checkKey jO.isEmpty 10000 kt ix
     let(v,o)<-match<-Instr.findKey kt ix jO.toList with
      | some (_,v)=>pure (v,true)
      | none=>pure (<-zeroValue et,false)
     pure (if ok then .tuple #[v,.bool o]else v):Sem Value).run P w= .ok v' w:=by
    intro es jO YM hk;obtain⟨r,r',hk,fN,hr⟩:=NF xN hk YM;rcases hr with ⟨rfl,rfl⟩ | ⟨j,e,e',rfl,h1,h2,rfl⟩
    ·simp only at hk
     split at hk
     ·rename_i hfz
      have Uy:VR U zero zero:=VR.kM hfz;cases ok with
      | true=>exact⟨_,_,hk,.pO (.cons Uy (.cons (.flat rfl) (.nil U))),by simp [iM xN,fN,Ia hz]⟩
      | false=>exact⟨_,_,hk,Uy,by simp [iM xN,fN,Ia hz]⟩
     ·cases hk
    ·have hv:=(YM.2 j e e' h1 h2).2.2.2
     cases ok with
     | true=>exact⟨_,_,hk,.pO (.cons hv (.cons (.flat rfl) (.nil U))),by simp [iM xN,fN]⟩
     | false=>exact⟨_,_,hk,hv,by simp [iM xN,fN]⟩
   rcases KH hk with ⟨rfl,vL⟩ | ⟨r,es,c,rfl,ho,vL⟩
   ·cases hx.of_flat rfl
    obtain⟨v,v',h1,h2,h3⟩:=main [] #[] ⟨rfl,by simp⟩ vL;refine⟨v,v',h1,h2,?_⟩;rw [<-h3];simp [Instr.lookup,run_underlying hu];rfl
   ·obtain⟨L,hL,rfl⟩:=hx.JV
    obtain⟨jO,_,hb,YM⟩:=h.map ho hL;obtain⟨v,v',h1,h2,h3⟩:=main es jO YM vL;refine⟨v,v',h1,h2,?_⟩;rw [<-h3];simp [Instr.lookup,run_underlying hu,MapKept.run_getObj_map hb];rfl
  ·cases hk
 ·cases hk
theorem Rel.Cf (h:Rel P w0 U S w){r:Nat}{es:List MapEntry}{c:Nat} (ho:S.obj r=some (.map es c)){L:Loc} (hL:U r=some L){o:Obj} (hb:w.heap[L.b]? =some o) (CA:w0.heap.size<=L.b){es2:List MapEntry}{Og:Array MapEntry}{c2:Nat} (he:gR U es2 Og.toList)
 (hob:∃jO c',o= .map jO c'):∃w',(setObj L.b (.map Og c2)).run P w= .ok () w'/\Rel P w0 U (S.set r (.map es2 c2)) w'/\xM U w U w':=by
 obtain⟨jO,c',rfl⟩:=hob;obtain⟨r1,r2⟩:=h.aK8 (o':= .map es2 c2) ho rfl rfl rfl hL CA rfl (.map Og c2) (fun hh=>⟨L,Og,hL,CA,hh,he⟩);exact⟨_,MapKept.run_setObj_map _ hb,r1,r2⟩
theorem Va{a b:Value} (h:Instr.sameBits 10000 a b=true) (w:World):(Instr.keyThatStays a b).run P w= .ok b w:=by simp [Instr.keyThatStays,h]
theorem PW (h:Rel P w0 U S w){t:TypeId}{m m' key Of x x':Value}{k:St->Bool} (hk:FP P t m key x S k=true) (hm:VR U m m') (aAT:VR U key Of) (hx:VR U x x'):
 ∃S' w',k S'=true/\Rel P w0 U S' w'/\xM U w U w'/\(Instr.mapUpdate t m' Of x').run P w= .ok () w':=by
 unfold FP at hk;split at hk
 ·rename_i kt et hmt
  have hu:=BZ hmt;split at hk
  ·rename_i xN
   rw [aAT.key xN];rcases KH hk with ⟨rfl,vL⟩ | ⟨r,es,c,rfl,ho,vL⟩
   ·cases vL
   ·obtain⟨L,hL,rfl⟩:=hm.JV
    obtain⟨jO,CA,hb,YM⟩:=h.map ho hL;have hk:=vL;simp only at hk;obtain⟨q,q',hk,fN,hr⟩:=NF xN hk YM;rcases hr with ⟨rfl,rfl⟩ | ⟨j,e,e',rfl,h1,h2,rfl⟩
    ·simp only [nA,bK,gS]at hk
     obtain⟨w',hw,r1,r2⟩:=h.Cf (P:=P) ho hL hb CA (es2:=es++[{key:=key,val:=x,born:=c}]) (Og:=jO.push {key:=key,val:=x',born:=c}) (c2:=c+1)
      (by rw [Array.toList_push];exact YM.push ⟨rfl,(BK xN).1,rfl,hx⟩) ⟨_,_,rfl⟩
     exact⟨_,w',hk,r1,r2,by simp [Instr.mapUpdate,run_underlying hu,MapKept.run_getObj_map hb,iM xN,fN,hw]⟩
    ·simp only [eG]at hk
     split at hk
     ·rename_i hsb
      rw [Oh,gS]at hk;have hrel:=YM.2 j e e' h1 h2;have hee:e.key=key:=WA hrel.2.1 (BK xN).1 hsb
      obtain⟨w',hw,r1,r2⟩:=h.Cf (P:=P) ho hL hb CA (es2:=es.set j {e with val:=x}) (Og:=jO.modify j fun e=>{e with key:=key,val:=x'}) (c2:=c)
       (by rw [Array.toList_modify];exact YM.aCO h1 h2 _ ⟨hee.symm,hrel.2.1,hrel.2.2.1,hx⟩) ⟨_,_,rfl⟩
      refine⟨_,w',hk,r1,r2,?_⟩;have h2':jO[j]? =some e':=by simpa using h2
      have:Instr.sameBits 10000 e'.key key=true:=by rw [hrel.1];exact hsb
      simp [Instr.mapUpdate,run_underlying hu,MapKept.run_getObj_map hb,iM xN,fN,h2',Va this,hw]
     ·cases hk
  ·cases hk
 ·cases hk
theorem Rel.same (h:Rel P w0 U S w){O:St} (ho:∀j,S.obj j=O.obj j) (hn:S.n=O.n):Rel P w0 U O w:=
 ⟨h.Oi,fun i o hi=>h.OY i o ((ho i).trans hi),fun i hi=>h.dom i (by omega),fun i o hi=>by rw [<-hn];exact h.lt i o ((ho i).trans hi),h.loc,
  fun i j a b L M Tc ha hb=>h.sep i j a b L M Tc ((ho i).trans ha) ((ho j).trans hb),
  fun j vs e olds hj i hi=>by rw [<-hn];obtain⟨h1,h2⟩:=h.old j vs e olds ((ho j).trans hj) i hi;exact⟨h1,fun o hx=>h2 o ((ho i).trans hx)⟩,h.base⟩
theorem Lg (h:Rel P w0 U S w){t:TypeId}{m m' key Of:Value}{K:VK} (hk:Hv P t m key S K=true) (hm:VR U m m') (aAT:VR U key Of):
 ∃v S' v' w',K v S'=true/\VR U v v'/\Rel P w0 U S' w'/\xM U w U w'/\(Instr.mapEntry t m' Of).run P w= .ok v' w':=by
 unfold Hv at hk;split at hk
 ·rename_i kt et hmt
  have hu:=BZ hmt;split at hk
  ·rename_i zero xN hz
   rw [aAT.key xN];rcases KH hk with ⟨rfl,vL⟩ | ⟨r,es,c,rfl,ho,vL⟩
   ·cases vL
   ·obtain⟨L,hL,rfl⟩:=hm.JV
    obtain⟨jO,CA,hb,YM⟩:=h.map ho hL;have hk:=vL;simp only at hk;obtain⟨q,q',hk,fN,hr⟩:=NF xN hk YM;rcases hr with ⟨rfl,rfl⟩ | ⟨j,e,e',rfl,h1,h2,rfl⟩
    ·simp only at hk
     split at hk
     ·rename_i hfz
      simp only [nA,bK,gS]at hk
      obtain⟨w',hw,r1,r2⟩:=h.Cf (P:=P) ho hL hb CA (es2:=es++[{key:=key,val:=zero,born:=c}]) (Og:=jO.push {key:=key,val:=zero,born:=c}) (c2:=c+1)
       (by rw [Array.toList_push];exact YM.push ⟨rfl,(BK xN).1,rfl,VR.kM hfz⟩) ⟨_,_,rfl⟩
      exact⟨_,_,_,w',hk,.pO (.cons (VR.kM hfz) (.cons (.flat rfl) (.nil U))),r1,r2,by simp [Instr.mapEntry,run_underlying hu,MapKept.run_getObj_map hb,iM xN,fN,Ia hz,hw];rfl⟩
     ·cases hk
    ·dsimp only at hk
     split at hk
     ·rename_i hsb
      have hrel:=YM.2 j e e' h1 h2;have hee:e.key=key:=WA hrel.2.1 (BK xN).1 hsb
      obtain⟨w',hw,r1,r2⟩:=h.Cf (P:=P) ho hL hb CA (es2:=es) (Og:=jO.modify j fun e=>{e with key:=key}) (c2:=c)
       (by rw [Array.toList_modify];exact YM.aRI h1 h2 _ ⟨hee.symm,hrel.2.1,hrel.2.2.1,hrel.2.2.2⟩) ⟨_,_,rfl⟩
      have aK9:S.set r (.map es c)=S.set r (.map es c):=rfl;refine⟨_,S,_,w',hk,.pO (.cons hrel.2.2.2 (.cons (.flat rfl) (.nil U))),?_,r2,?_⟩
      ·exact r1.same (fun j=>by
        rw [GV];split
        ·rename_i e;subst e;exact ho.symm
        ·rfl) rfl
      ·have h2':jO[j]? =some e':=by simpa using h2
       have:Instr.sameBits 10000 e'.key key=true:=by rw [hrel.1];exact hsb
       simp [Instr.mapEntry,run_underlying hu,MapKept.run_getObj_map hb,iM xN,fN,h2',Va this,hw,goInt,hrel.2.2.1]
     ·cases hk
  ·cases hk
 ·cases hk
end maps
section maps
variable{P:Program}{w0:World}{U:Rn}{S:St}{w:World}
def NG (n:Nat) (k:Nat->MapEntry->Bool) (es:List MapEntry):Nat->Bool:=
 gW (β:=Nat->Bool) (fun _=>false) (fun e _ ih i=>match Nat.beq e.born n with | true=>k i e | false=>bV (Nat.succ i) ih) es
theorem Aa{n:Nat}{k:Nat->MapEntry->Bool}:∀(l l':List MapEntry) (i:Nat),NG n k l i=true->gR U l l'->
 ∃j e e',k (i+j) e=true/\l[j]? =some e/\l'[j]? =some e'/\l'.findIdx? (fun e=>(e.born:Int)==(n:Int))=some j:=by
 intro l;induction l with
 | nil=>intro l' i hk _;cases hk
 | cons e l ih=>
  intro l' i hk hl;obtain⟨e',t',rfl,he,ht⟩:=hl.cons_inv;have hk:(match(generalizing:=false) Nat.beq e.born n with | true=>k i e | false=>bV (Nat.succ i) (NG n k l))=true:=hk;split at hk
  ·rename_i hb
   have hb:=dE hb;exact⟨0,e,e',hk,rfl,rfl,by simp [List.findIdx?_cons,he.2.2.1,hb]⟩
  ·rename_i hb
   have hb:=VH hb;rw [bK]at hk;obtain⟨j,x,x',h1,h2,h3,h4⟩:=ih t' (i+1) hk ht;refine⟨j+1,x,x',by rw [<-h1];congr 1;omega,by simpa using h2,by simpa using h3,?_⟩;have:((e'.born:Int)==(n:Int))=false:=by rw [he.2.2.1,beq_eq_false_iff_ne];omega
   simp [List.findIdx?_cons,this,h4]
theorem Dx (h:Rel P w0 U S w){t:TypeId}{m m' s s' x x':Value}{k:St->Bool} (hk:VU m s x S k=true) (hm:VR U m m') (hs:VR U s s') (hx:VR U x x'):
 ∃S' w',k S'=true/\Rel P w0 U S' w'/\xM U w U w'/\(Instr.entryStore t m' s' x').run P w= .ok () w':=by
 unfold VU at hk;split at hk
 ·rename_i kd n
  cases hs.of_flat rfl;rcases KH hk with ⟨rfl,vL⟩ | ⟨r,es,c,rfl,ho,vL⟩
  ·cases vL
  ·obtain⟨L,hL,rfl⟩:=hm.JV
   obtain⟨jO,CA,hb,YM⟩:=h.map ho hL;have hk:=vL;simp only at hk;obtain⟨j,e,e',hk,h1,h2,h3⟩:=Aa es jO.toList 0 hk YM;rw [Oh,gS,eG]at hk;have hrel:=YM.2 j e e' h1 h2
   obtain⟨w',hw,r1,r2⟩:=h.Cf (P:=P) ho hL hb CA (es2:=es.set j {e with val:=x}) (Og:=jO.modify j fun e=>{e with val:=x'}) (c2:=c)
    (by rw [Array.toList_modify];exact YM.aCO h1 h2 _ ⟨hrel.1,hrel.2.1,hrel.2.2.1,hx⟩) ⟨_,_,rfl⟩
   refine⟨_,w',hk,r1,r2,?_⟩;have h3':jO.findIdx? (fun e=>(e.born:Int)==(n:Int))=some j:=by rw [<-h3,<-List.findIdx?_toArray,Array.toArray_toList]
   have hai:(asInt (.int kd (Int.ofNat n))).run P w= .ok (n:Int) w:=by simp [asInt,asIntOf]
   simp only [Instr.entryStore,cP,MapKept.run_getObj_map hb,eE,hai,h3',hw]
 ·cases hk
theorem Td (h:Rel P w0 U S w){ts:Array TypeId}{t:TypeId}{m m' key Of:Value}{k:St->Bool} (hk:Xc P ts.toList m key S k=true) (hm:VR U m m') (aAT:VR U key Of):
 ∃S' w',k S'=true/\Rel P w0 U S' w'/\xM U w U w'/\(Builtin.delete_ ts t #[m',Of]).run P w= .ok (.tuple #[]) w':=by
 unfold Xc at hk;split at hk
 ·rename_i t0 ts' Oj
  have h0:ts[0]? =some t0:=by have:=iZ (·[0]?) Oj;simpa using this
  split at hk
  ·rename_i kt et hmt
   have hu:=BZ hmt;split at hk
   ·rename_i xN
    rw [aAT.key xN];rcases KH hk with ⟨rfl,vL⟩ | ⟨r,es,c,rfl,ho,vL⟩
    ·cases hm.of_flat rfl
     exact⟨S,w,vL,h,.refl U w,by simp [Builtin.delete_,h0,run_underlying hu,iM xN]⟩
    ·obtain⟨L,hL,rfl⟩:=hm.JV
     obtain⟨jO,CA,hb,YM⟩:=h.map ho hL;have hk:=vL;simp only at hk;obtain⟨q,q',hk,fN,hr⟩:=NF xN hk YM;rcases hr with ⟨rfl,rfl⟩ | ⟨j,e,e',rfl,h1,h2,rfl⟩
     ·simp only at hk
      obtain⟨w',hw,r1,r2⟩:=h.Cf (P:=P) ho hL hb CA (es2:=es) (Og:=jO) (c2:=c) YM ⟨_,_,rfl⟩;refine⟨S,w',hk,?_,r2,by simp [Builtin.delete_,h0,run_underlying hu,MapKept.run_getObj_map hb,iM xN,fN,hw]⟩
      exact r1.same (fun j=>by
       rw [GV];split
       ·rename_i e;subst e;exact ho.symm
       ·rfl) rfl
     ·simp only [eG,aFZ,gS]at hk
      obtain⟨w',hw,r1,r2⟩:=h.Cf (P:=P) ho hL hb CA (es2:=es.eraseIdx j) (Og:=jO.eraseIdxIfInBounds j) (c2:=c)
       (by
        have:(jO.eraseIdxIfInBounds j).toList=jO.toList.eraseIdx j:=by
         have hlt:j<jO.size:=by have:=(List.getElem?_eq_some_iff.1 h2).1;simpa using this
         simp [Array.eraseIdxIfInBounds,hlt]
        rw [this];exact YM.erase j) ⟨_,_,rfl⟩
      exact⟨_,w',hk,r1,r2,by simp [Builtin.delete_,h0,run_underlying hu,MapKept.run_getObj_map hb,iM xN,fN,hw]⟩
   ·cases hk
  ·cases hk
 ·cases hk
theorem WB (h:Rel P w0 U S w){t:TypeId}{K:VK} (hk:zB S (.map [] 0) (fun i S=>K (.map (some i)) S)=true):
 ∃U' v S' v' w',K v S'=true/\(Instr.makeMap t none).run P w= .ok v' w'/\VR U' v v'/\Rel P w0 U' S' w'/\xM U w U' w':=by
 rw [jB]at hk;obtain⟨r1,r2⟩:=h.new (.map [] 0) (.map #[] 0) ⟨w.heap.size,0,0,0⟩ rfl (fun U' _ hUz=>⟨_,#[],hUz,h.base.size,by show(w.heap.push _)[w.heap.size]? =_;simp,rfl,by simp⟩) (by simp [iW.olds]);exact⟨_,_,_,_,_,hk,by simp [Instr.makeMap,newObj];rfl,.map (Rn.mK U S.n _),r1,r2⟩
theorem Ok (h:Rel P w0 U S w){t:TypeId}{r r':Value}{K:VK} (hr:VR U r r')
 (hk:(match(generalizing:=false) r,IJ P t with | .int _ _,some _=>zB S (.map [] 0) (fun i S=>K (.map (some i)) S) | _,_=>false)=true):
 ∃U' v S' v' w',K v S'=true/\(Instr.makeMap t (some r')).run P w= .ok v' w'/\VR U' v v'/\Rel P w0 U' S' w'/\xM U w U' w':=by
 split at hk
 ·rename_i hm
  have hu:=BZ hm;cases hr.of_flat rfl;obtain⟨U',v,S',v',w',h1,h2,h3⟩:=WB (t:=t) h hk;refine⟨U',v,S',v',w',h1,?_,h3⟩;simp [Instr.makeMap,run_underlying hu,asInt,asIntOf]at h2 ⊢;exact h2
 ·cases hk
theorem aLa (n:Nat) (l:List Nat):aK6 n l=l.contains n:=by
 induction l with
 | nil=>rfl
 | cons m l ih=>
  show fX (Nat.beq m n) true (aK6 n l)=_;rw [ih,List.contains_cons];cases hb:Nat.beq m n with
  | true=>have:=dE hb;subst this;simp [fX]
  | false=>have:=VH hb;have h2:(n==m)=false:=by simpa using aO this
           rw [h2];rfl
theorem aAU (seen:List Nat) (k:List MapEntry->Bool) (es:List MapEntry):aAN seen es k=k (es.filter fun e=> !seen.contains e.born):=by
 induction es generalizing k with
 | nil=>rfl
 | cons e es ih=>
  show fX (aK6 e.born seen) (aAN seen es k) (aAN seen es fun t=>k (e::t))=_;rw [aLa,ih,ih,List.filter_cons];cases hb:seen.contains e.born<;>rfl
theorem gR.aPR{l l':List MapEntry} (h:gR U l l'){e':MapEntry} (he:e'∈l'):∃e,e∈l/\VW U e e':=by
 obtain⟨k,hk,rfl⟩:=Bj he;have hl:k<l.length:=by rw [h.1];exact hk
 exact⟨l[k],cK hl,h.2 k _ _ (aQ hl) (aQ hk)⟩
theorem gR.mem{l l':List MapEntry} (h:gR U l l'){e:MapEntry} (he:e∈l):∃e',e'∈l'/\VW U e e':=by
 obtain⟨k,hk,rfl⟩:=Bj he;have hl:k<l'.length:=by rw [<-h.1];exact hk
 exact⟨l'[k],cK hl,h.2 k _ _ (aQ hk) (aQ hl)⟩
theorem Te (h:Rel P w0 U S w){t:TypeId}{x x':Value}{K:VK} (hk:Do P t x S K=true) (hx:VR U x x'):
 ∃U' v S' v' w',K v S'=true/\(Instr.range t x').run P w= .ok v' w'/\VR U' v v'/\Rel P w0 U' S' w'/\xM U w U' w':=by
 unfold Do at hk;split at hk
 ·rename_i kt et hm
  have hu:=BZ hm;split at hk
  ·cases hx.of_flat rfl
   rw [jB]at hk;obtain⟨r1,r2⟩:=h.new (.iter none 0 [] 0) (.mapIter none 0 #[] 0) ⟨w.heap.size,0,0,0⟩ rfl (fun U' _ hUz=>⟨_,0,#[],0,⟨hUz,rfl⟩,h.base.size,by show(w.heap.push _)[w.heap.size]? =_;simp⟩) (by simp [iW.olds]);exact⟨_,_,_,_,_,hk,run_range_nilMap w t _ _ hu,.ptr (Rn.mK U S.n _),r1,r2⟩
  ·rename_i r
   obtain⟨L,hL,rfl⟩:=hx.JV;rw [mZ]at hk;cases ho:S.h.get r with
   | none=>rw [ho]at hk;cases hk
   | some o=>
    rw [ho]at hk;cases o with
    | map es c=>
     obtain⟨jO,CA,hb,YM⟩:=h.map ho hL;have hk:zB S (.iter (some r) c [] c) (fun i S=>K (.pointer (some ⟨i,0,none⟩)) S)=true:=hk;rw [jB]at hk
     obtain⟨r1,r2⟩:=h.new (.iter (some r) c [] c) (.mapIter (some L.b) c #[] c) ⟨w.heap.size,0,0,0⟩ rfl
      (fun U' he hUz=>⟨_,L,⟨hUz,rfl⟩,h.base.size,he _ _ hL,by show(w.heap.push _)[w.heap.size]? =_;simp⟩) (by simp [iW.olds])
     exact⟨_,_,_,_,_,hk,run_range_map w t _ _ L.b jO c hu hb,.ptr (Rn.mK U S.n _),r1,r2⟩
    | _=>cases hk
  ·cases hk
 ·cases hk
theorem aAV (h:Rel P w0 U S w){ty:TypeId}{x x':Value}{K:VK} (hk:aEt x S K=true) (hx:VR U x x'):
 ∃v S' v' w',K v S'=true/\(Instr.next x' false ty).run P w= .ok v' w'/\VR U v v'/\Rel P w0 U S' w'/\xM U w U w':=by
 unfold aEt at hk;split at hk
 ·rename_i i
  obtain⟨_,L,hL,rfl⟩:=hx.JT;rw [mZ]at hk;cases ho:S.h.get i with
  | none=>rw [ho]at hk;cases hk
  | some o=>
   rw [ho]at hk;cases o with
   | iter m since seen last=>
    cases m with
    | none=>
     have hk:K (.tuple ⟨[.bool false]⟩) S=true:=hk;obtain⟨L',a,b,c,⟨h1,hs⟩,h2,h3⟩:=h.OY i _ ho;rw [hL]at h1;injection h1 with h1;subst h1;refine⟨_,S,_,w,hk,?_,.pO (.cons (.flat rfl) (.nil U)),h,.refl U w⟩;rw [hs];simp only [Instr.next,getObj,cP,Sem.run,h3,Result.andThen];rfl
    | some r=>
     obtain⟨L',M,⟨h1,hs⟩,h2,h3,h4⟩:=h.OY i _ ho;rw [hL]at h1;injection h1 with h1;subst h1;rw [hs]
     have hk:rE S.h r (fun o=>match o with
      | .map es c=>match xH (fun e=>Nat.blt e.born since) es,Nat.ble since last with
       | true,true=>aAN seen es fun l=>match l with
        | []=>K (.tuple ⟨[.bool false]⟩) S
        | e::t=>xH (fun e=>FL seen [e.born] fun seen=>sR S i (.iter (some r) since seen c) fun S=>K (.tuple ⟨[.bool true,e.key,e.val]⟩) S) (e::t)
       | _,_=>false
      | _=>false)=true:=hk
     rw [mZ]at hk;cases BL:S.h.get r with
     | none=>rw [BL]at hk;cases hk
     | some o2=>
      rw [BL]at hk;cases o2 with
      | map es c=>
       obtain⟨jO,CA,hb,YM⟩:=h.map BL h3;dsimp only at hk;split at hk
       ·rename_i hold hsc
        rw [mY]at hold;have hsc:=cG hsc
        have aPS:∀x∈jO.toList,x.born<since:=by
         intro x hx;obtain⟨e,he,hr⟩:=YM.aPR hx;have:=List.all_eq_true.1 hold e he;rw [hr.2.2.1];exact cG this
        rw [aAU]at hk
        have aPT:∀e'∈(leftOf jO ⟨seen⟩).toList,∃e,e∈es.filter (fun e=> !seen.contains e.born)/\VW U e e':=by
         intro e' he';unfold leftOf at he';rw [Array.toList_filter]at he';obtain⟨h5,h6⟩:=List.mem_filter.1 he';obtain⟨e,he,hr⟩:=YM.aPR h5;refine⟨e,List.mem_filter.2 ⟨he,?_⟩,hr⟩;rw [hr.2.2.1]at h6;simpa using h6
        rcases run_next_at (P:=P) w ty L.b M.b since last ⟨seen⟩ jO c h4 hb aPS hsc with ⟨h0,fN⟩ | ⟨e',he',w1,hw1,fN⟩
        ·have Tf:es.filter (fun e=> !seen.contains e.born)=[]:=by
          cases hf:es.filter (fun e=> !seen.contains e.born)with
          | nil=>rfl
          | cons e t=>
           exfalso;have hm:e∈es.filter (fun e=> !seen.contains e.born):=by rw [hf];exact .head _
           obtain⟨h5,h6⟩:=List.mem_filter.1 hm;obtain⟨e',he',hr⟩:=YM.mem h5
           have:e'∈(leftOf jO ⟨seen⟩).toList:=by
            unfold leftOf;rw [Array.toList_filter];refine List.mem_filter.2 ⟨he',?_⟩;rw [hr.2.2.1];simpa using h6
           have hz:(leftOf jO ⟨seen⟩).toList=[]:=rY (by simpa using h0);rw [hz]at this;cases this
         rw [Tf]at hk;exact⟨_,S,_,w,hk,fN,.pO (.cons (.flat rfl) (.nil U)),h,.refl U w⟩
        ·obtain⟨e,he,hr⟩:=aPT e' he'
         have rH:(es.filter (fun e=> !seen.contains e.born)).all (fun e=>FL seen [e.born] fun seen=>sR S i (.iter (some r) since seen c) fun S=>K (.tuple ⟨[.bool true,e.key,e.val]⟩) S)=true:=by
          cases hf:es.filter (fun e=> !seen.contains e.born)with
          | nil=>rfl
          | cons x t=>rw [hf]at hk;simp only [mY]at hk;exact hk
         have hk:=List.all_eq_true.1 rH e he;rw [nA,gS]at hk
         have aPU:Rel P w0 U S w1/\xM U w U w1/\w1.heap=w.heap:=by
          rcases hw1 with rfl | rfl
          ·exact⟨h,.refl _ _,rfl⟩
          ·exact⟨h.drew,.drew _ _,rfl⟩
         obtain⟨hr1,xB,hh1⟩:=aPU
         obtain⟨r1,r2⟩:=hr1.aK8 (o':= .iter (some r) since (seen++[e.born]) c) ho rfl rfl rfl hL h2 rfl (.mapIter (some M.b) since ((⟨seen⟩:Array Nat).push e'.born) c)
          (fun Xg=>⟨L,M,⟨hL,hs⟩,h2,h3,by rw [Xg,hr.2.2.1];simp⟩)
         exact⟨_,_,_,_,hk,fN,.pO (.cons (.flat rfl) (.cons (by rw [hr.1];exact .kM hr.2.1) (.cons hr.2.2.2 (.nil U)))),r1,xB.trans r2⟩
       ·cases hk
      | _=>cases hk
   | _=>cases hk
 ·cases hk
theorem aCP{l:List Nat}{k:Nat->Bool} (hk:aAO l k=true):∃b,l.getLast?=some b/\k b=true:=by
 induction l with
 | nil=>cases hk
 | cons n t ih=>
  cases t with
  | nil=>exact⟨n,rfl,hk⟩
  | cons m t=>
   obtain⟨b,h1,h2⟩:=ih hk;exact⟨b,by rw [List.getLast?_cons_cons];exact h1,h2⟩
theorem Xn (h:Rel P w0 U S w){x x':Value}{K:VK} (hk:Xd x S K=true) (hx:VR U x x'):
 ∃v v',K v S=true/\VR U v v'/\(Instr.entry x').run P w= .ok v' w:=by
 unfold Xd at hk;split at hk
 ·rename_i i
  obtain⟨_,L,hL,rfl⟩:=hx.JT;rw [mZ]at hk;cases ho:S.h.get i with
  | none=>rw [ho]at hk;cases hk
  | some o=>
   rw [ho]at hk;cases o with
   | iter m since seen last=>
    cases m with
    | none=>cases hk
    | some r=>
     obtain⟨L',M,⟨h1,hs⟩,h2,h3,h4⟩:=h.OY i _ ho;rw [hL]at h1;injection h1 with h1;subst h1;rw [hs]
     replace hk:rE S.h r (fun o=>match o with
      | .map es c=>match Nat.beq c last with
       | true=>aAO seen fun b=>Uw b es fun _ e=>K (.tuple ⟨[e.key,e.val]⟩) S
       | false=>false
      | _=>false)=true:=hk
     rw [mZ]at hk;cases BL:S.h.get r with
     | none=>rw [BL]at hk;cases hk
     | some o2=>
      rw [BL]at hk;cases o2 with
      | map es c=>
       obtain⟨jO,CA,hb,YM⟩:=h.map BL h3;dsimp only at hk;split at hk
       ·rename_i Hi
        obtain rfl:=dE Hi;obtain⟨b,aM9,hk⟩:=aCP hk;have hk:NG b (fun _ e=>K (.tuple ⟨[e.key,e.val]⟩) S) es 0=true:=hk;obtain⟨j,e,e',hk,he,he',hf⟩:=Aa es jO.toList 0 hk YM;have hr:=YM.2 j e e' he he';refine⟨_,_,hk,.pO (.cons (.kM hr.2.1) (.cons hr.2.2.2 (.nil U))),?_⟩;have aPV:(⟨seen⟩:Array Nat).back?=some b:=by simpa using aM9
        have aHC:jO.find? (·.born==b)=some e':=by
         rw [<-Array.find?_toList]
         have hf2:jO.toList.findIdx? (fun e=>e.born==b)=some j:=by
          rw [<-hf];congr 1;funext x;rw [Ns,beq_iff_eq,beq_iff_eq];omega
         obtain⟨hlt,hp,aRJ⟩:=List.findIdx?_eq_some_iff_getElem.1 hf2;rw [List.find?_eq_some_iff_getElem]
         have hgj:jO.toList[j]=e':=by
          have:=aQ hlt;rw [this]at he';injection he'
         exact⟨by rw [<-hgj];exact hp,j,hlt,hgj,fun k hk=>by simpa using aRJ k hk⟩
        simp only [Instr.entry,getObj,cP,Sem.run,h4,hb,Result.andThen,aPV,bne_self_eq_false,Ho,if_false,aHC];rw [hr.1];rfl
       ·cases hk
      | _=>cases hk
   | _=>cases hk
 ·cases hk
theorem WC{t as xT:TypeId}{v:Value}{d:TypeDesc}{ok:Bool} (hd:P.underlying as=some d) (hi:∀ms,d≠ .interface ms) (ht:t=as):
 (Instr.typeAssert (.iface t v) xT as ok).run P w= .ok (if ok then .tuple #[v,.bool true]else v) w:=by
 subst ht;simp only [Instr.typeAssert,cP,run_underlying hd,eE];cases d<;>first | exact aX rfl (hi _) | (cases ok<;>simp)
end maps
section app
variable{P:Program}{w0:World}{U:Rn}{S:St}{w:World}
theorem Dy (h:Rel P w0 U S w){size n:Nat}{x x':Value}{k:List Value->Bool} (hk:OW S size n x k=true) (hx:VR U x x'):
 ∃cs cs',k cs=true/\lM U cs cs'/\cs'.length=n*size/\(Builtin.firstCells size n x').run P w= .ok ⟨cs'⟩ w/\(Builtin.firstCells size n x').run P w.drew= .ok ⟨cs'⟩ w.drew:=by
 unfold OW at hk;split at hk
 ·cases hx.of_flat rfl
  split at hk
  ·exact⟨_,[],hk,.nil U,by simp,rfl,rfl⟩
  ·cases hk
 ·rename_i i o sp len c
  split at hk
  ·rcases hx.mQ with ⟨L,c',hL,rfl,_⟩ | ⟨⟨s1,h1⟩,rfl,rfl,a,c',rfl⟩
   ·exact⟨_,[],hk,.nil U,by simp,by simp [Builtin.firstCells,loadCells,loadCellsFrom],by simp [Builtin.firstCells,loadCells,loadCellsFrom]⟩
   ·exact⟨_,[],hk,.nil U,by simp,by simp [Builtin.firstCells,loadCells,loadCellsFrom],by simp [Builtin.firstCells,loadCells,loadCellsFrom]⟩
  ·rename_i n
   split at hk
   ·cases hk
   ·rename_i AO
    rcases hx.mQ with ⟨L,c',hL,rfl,_⟩ | ⟨⟨s1,h1⟩,rfl,rfl,a,c',rfl⟩
    ·obtain⟨vs,e',ck,ho,hle,hk⟩:=FR hk
     obtain⟨l',Sn,hlen,hc⟩:=h.KG ho hL hle;exact⟨_,l',hk,Sn,hlen,run_loadCells (P:=P) _ l' hlen hc,run_loadCells (P:=P) (w:=w.drew) _ l' hlen hc⟩
    ·exact aX h1 (AO s1)
 ·rename_i s
  cases hx.of_flat rfl;split at hk
  ·rw [HF]at hk
   split at hk
   ·rename_i hle
    rw [Xl]at hk
    have hd:((s.extract 0 n).data.map fun b=>Value.int .u8 (b.toNat:Int))=⟨(s.data.toList.take n).map fun b=>Value.int .u8 (b.toNat:Int)⟩:=by
     apply Array.toList_inj.1;simp
    refine⟨_,_,hk,.flat (by intro v hv;obtain⟨b,_,rfl⟩:=List.mem_map.1 hv;rfl),by simp at hle ⊢;omega,?_,?_⟩
    ·simp only [Builtin.firstCells,kJ];rw [hd]
    ·simp only [Builtin.firstCells,kJ];rw [hd]
   ·cases hk
  ·cases hk
 ·cases hk
theorem Js{x x':Value}{k:Nat->Bool} (hk:TL x k=true) (hx:VR U x x'):∃n,k n=true/\(∀w,(Builtin.lenOf x').run P w= .ok n w)/\∀size w,(Builtin.firstCells size 0 x').run P w= .ok #[] w:=by
 unfold TL at hk;split at hk
 ·rename_i n c
  have f0:∀(a:Addr) (n c size:Nat) (w:World),(Builtin.firstCells size 0 (.slice (some a) n c)).run P w= .ok #[] w:=fun a n c size w=>by simp [Builtin.firstCells,loadCells,loadCellsFrom]
  cases hx with
  | flat hf=>
   rename_i base;cases base with
   | none=>exact⟨n,hk,fun w=>rfl,fun _ w=>rfl⟩
   | some a=>simp [bW]at hf
  | slice _=>exact⟨n,hk,fun w=>rfl,fun _ w=>f0 _ _ _ _ w⟩
  | rF _ _ _ _ _=>exact⟨n,hk,fun w=>rfl,fun _ w=>f0 _ _ _ _ w⟩
  | DD=>exact⟨_,hk,fun w=>rfl,fun _ w=>f0 _ _ _ _ w⟩
  | DF _=>exact⟨_,hk,fun w=>rfl,fun _ w=>f0 _ _ _ _ w⟩
 ·rename_i s
  cases hx.of_flat rfl;rw [nT]at hk;exact⟨_,hk,fun w=>rfl,fun _ w=>by simp [Builtin.firstCells]⟩
 ·cases hk
theorem Vb{d:Option TypeDesc} (h:Sw d=true):(∃e,d=some (.slice e))\/d=some .string:=by
 unfold Sw at h;split at h
 ·exact .inl ⟨_,rfl⟩
 ·exact .inr rfl
 ·cases h
section runs
variable{ts:Array TypeId}{ty t tx e:TypeId}{i:TypeInfo}{z:Value}{base:Option Addr}{sLen sCap n:Nat}{x:Value}{news olds:List Value}{w1:World}
theorem RV (h0:ts[0]? =some t) (h1:ts[1]? =some tx) (ht:P.underlying t=some (.slice e)) (hx:Sw (P.underlying tx)=true) (hi:P.info? e=some i)
 (hlen:∀w,(Builtin.lenOf x).run P w= .ok n w) (Jt:sLen+n<=sCap) (hc:(Builtin.firstCells i.size n x).run P w= .ok ⟨news⟩ w)
 (hst:∀a,base=some a->(storeCells (a.add (sLen*i.size)) news).run P w= .ok () w1) (xC:base=none->w1=w):
 (Builtin.append_ ts ty #[.slice base sLen sCap,x]).run P w= .ok (.slice base (sLen+n) sCap) w1:=by
 rcases Vb hx with ⟨e',hx⟩ | hx
 all_goals cases base with
  | none=>cases xC rfl;simp [Builtin.append_,h0,h1,run_underlying ht,run_underlying hx,sizeOf,typeInfo,hi,hlen,Jt,hc]
  | some a=>simp [Builtin.append_,h0,h1,run_underlying ht,run_underlying hx,sizeOf,typeInfo,hi,hlen,Jt,hc,hst a rfl]
theorem RW (h0:ts[0]? =some t) (h1:ts[1]? =some tx) (ht:P.underlying t=some (.slice e)) (hx:Sw (P.underlying tx)=true) (hi:P.info? e=some i) (hz:i.zero=some z)
 (hlen:∀w,(Builtin.lenOf x).run P w= .ok n w) (Jt:sCap<sLen+n) (Cg:((sLen+n)*i.bytes<=140737488355328/\(sLen+n)<=140737488355328)) (hold:(Builtin.firstCells i.size sLen (.slice base sLen sCap)).run P w.drew= .ok ⟨olds⟩ w.drew)
 (hc:(Builtin.firstCells i.size n x).run P w.drew= .ok ⟨news⟩ w.drew):
 (Builtin.append_ ts ty #[.slice base sLen sCap,x]).run P w= .ok (.slice (some ⟨w.heap.size,0,none⟩) (sLen+n) (grownCap w (sLen+n) sCap e))
  (w.drew.alloc (.cells ⟨(olds++news)++(List.replicate (grownCap w (sLen+n) sCap e-(sLen+n)) z.cells.toList).flatten⟩ e)):=by
 have hn:¬(sLen+n<=sCap):=by omega
 have hb:(sLen+n)*i.bytes<=140737488355328:=Cg.1;have NH:sLen+n<=140737488355328:=Cg.2;have aRK:¬(9223372036854775807<((sLen:Int)+(n:Int))):=by omega
 have h48:=growslice_fits (bytes:=i.bytes) Jt (by omega);have aRL:¬(281474976710656<Builtin.nextslicecap (sLen+n) sCap*i.bytes):=by omega
 have hzz:∀m,Builtin.zeroCells z.cells m=⟨(List.replicate m z.cells.toList).flatten⟩:=by
  intro m;by_cases oJ:z.cells.toList=[]
  ·have:z.cells= #[]:=Array.toList_inj.1 oJ
   apply Array.toList_inj.1;simp [Builtin.zeroCells,this]
  ·exact PV z.cells.toList z.cells rfl m oJ
 rcases Vb hx with ⟨e',hx⟩ | hx<;>
  simp [Builtin.append_,h0,h1,run_underlying ht,run_underlying hx,sizeOf,typeInfo,zeroValue,hi,hz,hlen,hn,aRK,aRL,Question.forced,hc,hold,newRow,grownCap,hzz]
end runs
end app
section app
variable{P:Program}{w0:World}{U:Rn}{S:St}{w:World}
theorem Rel.uB (h:Rel P w0 U S w){b:Nat}{vs:List Value}{e:TypeId}{olds:List Nat} (ho:S.obj b=some (.cells vs e (.grown olds))):Rel P w0 U (S.set b (.cells vs e .uB)) w:=by
 have DH:∀j x,(S.set b (.cells vs e .uB)).obj j=some x->(j=b/\x= .cells vs e .uB)\/(j≠b/\S.obj j=some x):=fun j x hx=>by
  rw [GV]at hx;by_cases e:j=b
  ·rw [aJ e]at hx;injection hx with hx;exact .inl ⟨e,hx.symm⟩
  ·rw [aG e]at hx;exact .inr ⟨e,hx⟩
 have hsh:∀(j:Nat) (y:iW),y.BJ=false->S.obj j=some y->aHD b j (.cells vs e (.grown olds)) y->y.reads=true:=by
  intro j y hd hy hs;rcases hs with ⟨h1,_⟩ | h1 | h1
  ·cases h1
  ·obtain⟨_,h2⟩:=h.old b vs e olds ho j h1
   rcases h2 y hy with h3 | ⟨ws,t',h3,_⟩
   ·rw [h3]at hd;cases hd
   ·rw [h3];rfl
  ·cases y with
   | cells us t k=>
    cases k with
    | grown l=>
     obtain⟨_,h2⟩:=h.old j us t l hy b h1;rcases h2 _ ho with h3 | ⟨ws,t',h3,_⟩
     ·cases h3
     ·injection h3 with _ _ h3;cases h3
    | _=>cases h1
   | _=>cases h1
 refine⟨h.Oi,fun j x hx=>?_,h.dom,fun j x hx=>?_,h.loc,fun i j x y L M Tc hx hy hdx hdy hL hM hb=>?_,fun j us t l hj i hi=>?_,h.base⟩
 ·rcases DH j x hx with ⟨rfl,rfl⟩ | ⟨_,hx⟩
  ·obtain⟨L,cs,t,fz,h1,h2,h3,h4⟩:=h.OY _ _ ho
   exact⟨L,cs,t,fz,h1,h2,h3,h4.1,h4.2.2.2⟩
  ·exact h.OY j x hx
 ·rcases DH j x hx with ⟨rfl,_⟩ | ⟨_,hx⟩
  ·exact h.lt _ _ ho
  ·exact h.lt j x hx
 ·rcases DH i x hx with ⟨e1,e2⟩ | ⟨e1,ZI⟩<;>rcases DH j y hy with ⟨f1,f2⟩ | ⟨f1,hy1⟩
  ·exact aX (e1.trans f1.symm) Tc
  ·subst e1 e2
   exact .inl ⟨rfl,hsh j y hdy hy1 (h.sep i j _ y L M Tc ho hy1 rfl hdy hL hM hb)⟩
  ·subst f1 f2
   have:=h.sep j i _ x M L (aO Tc) ho ZI rfl hdx hM hL hb.symm;exact .inl ⟨hsh i x hdx ZI this,rfl⟩
  ·exact h.sep i j x y L M Tc ZI hy1 hdx hdy hL hM hb
 ·rcases DH j _ hj with ⟨_,e2⟩ | ⟨e1,hj⟩
  ·injection e2 with _ _ e2;cases e2
  ·obtain⟨h1,h2⟩:=h.old j us t l hj i hi
   refine⟨h1,fun x hx=>?_⟩;rcases DH i x hx with ⟨rfl,rfl⟩ | ⟨_,hx⟩
   ·rcases h2 _ ho with h3 | ⟨ws,t',h3,_⟩
    ·cases h3
    ·injection h3 with _ _ h3;cases h3
   ·exact h2 x hx
theorem Rel.aPW (h:Rel P w0 U S w){b:Nat}{L:Loc} (hL:U b=some L){vs:List Value}{e:TypeId} (ho:S.obj b=some (.cells vs e .uB)){olds:List Nat}
 (holds:∀i∈olds,i<S.n/\∀x,S.obj i=some x->aAW U b vs i x)
 (Xo:∀j x M,S.obj j=some x->x.BJ=false->U j=some M->M.b=L.b->j=b\/j∈olds)
 {cs cs':Array Value} {t:TypeId} {fz:Nat×Nat} (hb:w.heap[L.b]? =some (.cells cs t fz)) (hsz:cs'.size=cs.size) (HH:∀j,j<L.s+vs.length->cs'[j]? =cs[j]?)
 {e2:TypeId} {s2:Nat} {new:List Value} (hlen:L.s+vs.length<=s2+new.length) (Xg:∀(j:Nat) (v:Value),new[j]? =some v->∃v',cs'[s2+j]? =some v'/\VR U v v')
 (hfz:Om cs.size fz) (hLe:L.e=cs.size) (hm:cN P e2=some L.m) (he2:e=e2) (CA:w0.heap.size<=L.b):
 Rel P w0 (U.put S.n ⟨L.b,s2,L.e,L.m⟩) (S.new (.cells new e2 (.grown (b::olds)))) (w.putObj L.b (.cells cs' t fz))/\xM U w (U.put S.n ⟨L.b,s2,L.e,L.m⟩) (w.putObj L.b (.cells cs' t fz)):=by
 have TO:=h.dom S.n (bR _);have he:Ext U (U.put S.n ⟨L.b,s2,L.e,L.m⟩):=Rn.RX TO;have Dz:=RY (w:=w) (x:= .cells cs' t fz) hb
 have vO:∀j M,U.put S.n ⟨L.b,s2,L.e,L.m⟩ j=some M->(j=S.n/\M=⟨L.b,s2,L.e,L.m⟩)\/(j≠S.n/\U j=some M):=fun j M hj=>by
  unfold Rn.put at hj;by_cases e:j=S.n
  ·rw [aJ e]at hj;injection hj with hj;exact .inl ⟨e,hj.symm⟩
  ·rw [aG e]at hj;exact .inr ⟨e,hj⟩
 have uR:∀j x,(S.new (.cells new e2 (.grown (b::olds)))).obj j=some x->(j=S.n/\x= .cells new e2 (.grown (b::olds)))\/(j≠S.n/\S.obj j=some x):=fun j x hx=>by
  rw [YN]at hx;by_cases e:j=S.n
  ·rw [aJ e]at hx;injection hx with hx;exact .inl ⟨e,hx.symm⟩
  ·rw [aG e]at hx;exact .inr ⟨e,hx⟩
 have aNL:=h.lt b _ ho
 have hte:t=e2:=by
  obtain⟨L',cs0,t0,fz0,k1,k2,_,k4⟩:=h.OY b _ ho;rw [hL]at k1;injection k1 with k1;subst k1;rw [hb]at k2;injection k2 with k2;injection k2 with _ k2 _;rw [k2,<-he2];exact k4.2.2
 refine⟨⟨fun g hg=>let⟨M,h1,h2⟩:=h.Oi g hg;⟨M,he _ _ h1,h2⟩,fun j x hx=>?_,fun j hj=>?_,fun j x hx=>?_,fun j M hj=>?_,fun i j x y M N Tc hx hy hdx hdy hM hN Sz=>?_,fun j us t' l hj i hi=>?_,?_⟩,he,⟨by rw [putObj_size];omega,fun c _ hc=>yF (aO (hc b L hL))⟩,fun j M hj=>?_⟩
 ·rcases uR j x hx with ⟨rfl,rfl⟩ | ⟨e1,ZI⟩
  ·refine⟨_,cs',t,fz,Rn.mK _ _ _,Dz,fun j v hj=>?_,CA,by rw [hsz];exact hfz,by rw [hsz];exact hLe,hm,hte⟩
   obtain⟨v',h1,h2⟩:=Xg j v hj;exact⟨v',h1,h2.mono he⟩
  ·cases hd:x.BJ with
   | true=>cases x<;>first | trivial | cases hd
   | false=>
    obtain⟨M,hM⟩:=(h.OY j x ZI).loc hd;by_cases hMb:M.b=L.b
    ·
      have aAX:∃ws e',x= .cells ws e' .uB/\M.s+ws.length<=L.s+vs.length:=by
       rcases Xo j x M ZI hd hM hMb with e2 | So
       ·subst e2
        rw [ho]at ZI;injection ZI with ZI;rw [hL]at hM;injection hM with hM;subst hM;exact⟨vs,e,ZI.symm,bR _⟩
       ·rcases(holds j So).2 x ZI with h3 | ⟨ws,e',h3,h4⟩
        ·rw [h3]at hd;cases hd
        ·exact⟨ws,e',h3,h4 L M hL hM hMb⟩
      obtain⟨ws,e',rfl,hle⟩:=aAX;obtain⟨M',cs0,t0,fz0,h1,h2,h3,h4⟩:=h.OY j _ ZI;rw [hM]at h1;injection h1 with h1;subst h1;rw [hMb,hb]at h2;injection h2 with h2;injection h2 with h2 h2a h2b;subst h2 h2a h2b;refine⟨M,cs',t,fz,he _ _ hM,by rw [hMb];exact Dz,fun q v hq=>?_,h4⟩;obtain⟨v',g1,g2⟩:=h3 q v hq;have hql:q<ws.length:=(List.getElem?_eq_some_iff.1 hq).1;exact⟨v',(HH _ (by omega)).trans g1,g2.mono he⟩
    ·exact(h.OY j x ZI).frame he fun M' EU=>by rw [hM]at EU;injection EU with EU;subst EU;exact yF hMb
 ·have Xp:S.n+1<=j:=hj
  unfold Rn.put;rw [aG (by omega)];exact h.dom j (by omega)
 ·rcases uR j x hx with ⟨e1,_⟩ | ⟨_,ZI⟩
  ·subst e1;exact xF _
  ·exact rZ (h.lt j x ZI)
 ·rw [putObj_size]
  rcases vO j M hj with ⟨_,rfl⟩ | ⟨_,hM⟩
  ·exact h.loc b L hL
  ·exact h.loc j M hM
 ·rcases uR i x hx with ⟨e1,e2⟩ | ⟨e1,ZI⟩<;>rcases uR j y hy with ⟨f1,f2⟩ | ⟨f1,hy1⟩
  ·exact aX (e1.trans f1.symm) Tc
  ·rcases vO i M hM with ⟨_,rfl⟩ | ⟨e3,_⟩
   ·rcases vO j N hN with ⟨f3,_⟩ | ⟨_,hN1⟩
    ·exact aX f3 f1
    ·rw [e2]
     rcases Xo j y N hy1 hdy hN1 Sz.symm with h5 | h5
     ·exact .inr (.inl (by rw [h5];exact .head _))
     ·exact .inr (.inl (.tail _ h5))
   ·exact aX e1 e3
  ·rcases vO j N hN with ⟨_,rfl⟩ | ⟨f3,_⟩
   ·rcases vO i M hM with ⟨e3,_⟩ | ⟨_,hM1⟩
    ·exact aX e3 e1
    ·rw [f2]
     rcases Xo i x M ZI hdx hM1 Sz with h5 | h5
     ·exact .inr (.inr (by rw [h5];exact .head _))
     ·exact .inr (.inr (.tail _ h5))
   ·exact aX f1 f3
  ·rcases vO i M hM with ⟨e3,_⟩ | ⟨_,hM1⟩
   ·exact aX e3 e1
   ·rcases vO j N hN with ⟨f3,_⟩ | ⟨_,hN1⟩
    ·exact aX f3 f1
    ·exact h.sep i j x y M N Tc ZI hy1 hdx hdy hM1 hN1 Sz
 ·rcases uR j _ hj with ⟨e1,e2⟩ | ⟨e1,hj1⟩
  ·injection e2 with e2 e3 e4
   injection e4 with e4;subst e1 e2 e4
   have hib:i<S.n/\∀x,S.obj i=some x->aAW U b vs i x:=by
    rcases List.mem_cons.1 hi with h5 | h5
    ·subst h5
     refine⟨aNL,fun x hx=> .inr ⟨vs,e,?_,?_⟩⟩
     ·rw [ho]at hx;injection hx with hx;exact hx.symm
     ·intro L1 M1 g1 g2 _;rw [g1]at g2;injection g2 with g2;subst g2;exact bR _
    ·exact holds i h5
   refine⟨rZ hib.1,fun x hx=>?_⟩;rcases uR i x hx with ⟨e5,_⟩ | ⟨e5,ZI⟩
   ·exact aX e5 (by have:=hib.1;omega)
   ·rcases hib.2 x ZI with h6 | ⟨ws,e',h6,h7⟩
    ·exact .inl h6
    ·refine .inr ⟨ws,e',h6,fun L1 M1 g1 g2 gb=>?_⟩
     rcases vO _ _ g1 with ⟨_,rfl⟩ | ⟨g3,_⟩
     ·rcases vO _ _ g2 with ⟨g4,_⟩ | ⟨_,g4⟩
      ·exact aX g4 e5
      ·have:=h7 L M1 hL g4 gb
       simp only;omega
     ·exact aX rfl g3
  ·obtain⟨h1,h2⟩:=h.old j us t' l hj1 i hi
   refine⟨rZ h1,fun x hx=>?_⟩;rcases uR i x hx with ⟨e3,_⟩ | ⟨e3,ZI⟩
   ·omega
   ·rcases h2 x ZI with h3 | ⟨ws,e',h3,h4⟩
    ·exact .inl h3
    ·refine .inr ⟨ws,e',h3,fun L1 M1 g1 g2 gb=>?_⟩
     rcases vO _ _ g1 with ⟨g3,_⟩ | ⟨_,g3⟩
     ·exact aX g3 e1
     ·rcases vO _ _ g2 with ⟨g5,_⟩ | ⟨_,g5⟩
      ·exact aX g5 e3
      ·exact h4 L1 M1 g3 g5 gb
 ·exact⟨h.base.os,h.base.tape,h.base.output,by rw [putObj_size];exact h.base.size,fun k hk=>(yF (by omega)).trans (h.base.block k hk)⟩
 ·rcases vO j M hj with ⟨_,rfl⟩ | ⟨_,hM⟩
  ·exact .inr (.inr ⟨b,L,hL,rfl⟩)
  ·exact .inl hM
end app
section app
variable{P:Program}{w0:World}{U:Rn}{S:St}{w:World}
theorem Ju{t e:TypeId} (h:isSlice P t=some e):P.underlying t=some (.slice e):=gE h
theorem aHE (n:Nat) (z:List Value){m:Nat} (h:z.length=m):(List.replicate n z).flatten.length=n*m:=by simp [h]
theorem Rel.fresh (h:Rel P w0 U S w){cs cs' zl:List Value} (vX:lM U cs cs'){tY size g:Nat}{elem:TypeId} (hl:cs'.length=tY*size) (hm:cN P elem=some size) (hz:zl.length=size) (Lf:0<size) (hg:tY<=g){olds:List Nat}
 (hold:∀i∈olds,i<S.n/\∀x,S.obj i=some x->x= .dead\/∃ws e,x= .cells ws e .uB):
 ∃U',VR U' (.slice (some ⟨S.n,0,some 0⟩) tY tY) (.slice (some ⟨w.heap.size,0,none⟩) tY g)/\Rel P w0 U' (S.new (.cells cs elem (.grown olds))) (w.drew.alloc (.cells ⟨cs'++(List.replicate (g-tY) zl).flatten⟩ elem))/\
  xM U w U' (w.drew.alloc (.cells ⟨cs'++(List.replicate (g-tY) zl).flatten⟩ elem)):=by
 obtain⟨r1,r2⟩:=h.drew.aAQ (more:=(List.replicate (g-tY) zl).flatten) vX elem hm (0,0) (by intro x _;omega) olds hold;have hL:=Rn.mK U S.n ⟨w.drew.heap.size,0,(cs'++(List.replicate (g-tY) zl).flatten).length,size⟩;refine⟨_,?_,r1,(xM.drew U w).trans r2⟩
 have hlen:(cs'++(List.replicate (g-tY) zl).flatten).length=g*size:=by
  rw [jU,hl,aHE _ _ hz,<-KP]
  congr 1
  omega
 exact VR.rF (o:=0) (n:=tY) (c:=tY) (c':=g) hL hg (bR _) (by simp only [hlen];omega) Lf
theorem Xq (h:Rel P w0 U S w){ts:Array TypeId}{ty t tx e:TypeId}{i:TypeInfo}{size:Nat} (h0:ts[0]? =some t) (h1:ts[1]? =some tx) (ht:P.underlying t=some (.slice e)) (Tg:Sw (P.underlying tx)=true) (hi:P.info? e=some i) (TP:i.size=size)
 {base:Option Addr} {sLen sCap n:Nat} {s' _x x':Value} {new new':List Value} {K:VK} (hs:VR U (.slice base sLen sCap) s') (hlen:∀w,(Builtin.lenOf x').run P w= .ok n w) (hn:lM U new new')
 (hc:(Builtin.firstCells size n x').run P w= .ok ⟨new'⟩ w) (Ch:sLen+n<=sCap) (hk:Hw size new base sLen sCap (sLen+n) S K=true):
 ∃U' v S' v' w',K v S'=true/\(Builtin.append_ ts ty #[s',x']).run P w= .ok v' w'/\VR U' v v'/\Rel P w0 U' S' w'/\xM U w U' w':=by
 unfold Hw at hk;split at hk
 ·rename_i b o sp
  split at hk
  ·rename_i AO RP
   rw [bK]at hk;rw [mY]at RP;have RP:=Ea hn (List.all_eq_true.1 RP);rcases hs.mQ with ⟨L,c',hL,rfl,aCN⟩ | ⟨⟨_,aHF⟩,_⟩
   ·obtain⟨S',w',hk,r1,r2,fN⟩:=DI h hk hL hn RP
    refine⟨U,_,S',_,w',hk,RV h0 h1 ht Tg hi hlen (by rcases aCN with ⟨_,e⟩ | ⟨_,e,_⟩<;>omega) (by rw [TP];exact hc) (fun a ha=>?_) (fun e=>by cases e),?_,r1,r2⟩
    ·injection ha with ha
     rw [<-ha,rG,TP,uO];exact fN
    ·rcases aCN with ⟨rfl,rfl⟩ | ⟨rfl,e1,e2,e3,e4⟩
     ·exact .slice hL
     ·exact .rF hL e1 Ch e3 e4
   ·rw [aHF]at AO;cases AO
  ·cases hk
 ·cases hk
theorem Th (h:Rel P w0 U S w){ts:Array TypeId}{ty t tx e:TypeId}{i:TypeInfo}{z:Value}{size:Nat} (h0:ts[0]? =some t) (h1:ts[1]? =some tx) (ht:P.underlying t=some (.slice e)) (Tg:Sw (P.underlying tx)=true) (hi:P.info? e=some i) (TP:i.size=size) (hz:i.zero=some z) (Xk:z.cells.size=size) (Lf:0<size)
 {base:Option Addr} {sLen sCap n:Nat} {s' _x x':Value} {new new':List Value} {K:VK} (hs:VR U (.slice base sLen sCap) s') (hlen:∀w,(Builtin.lenOf x').run P w= .ok n w) (hn:lM U new new') (Xh:new'.length=n*size)
 (hc:(Builtin.firstCells size n x').run P w= .ok ⟨new'⟩ w) (hcD:(Builtin.firstCells size n x').run P w.drew= .ok ⟨new'⟩ w.drew) (Ch:¬sLen+n<=sCap) (Cg:((sLen+n)*i.bytes<=140737488355328/\(sLen+n)<=140737488355328))
 (hk:Dp P e size new base sLen (sLen+n) S K=true):
 ∃U' v S' v' w',K v S'=true/\(Builtin.append_ ts ty #[s',x']).run P w= .ok v' w'/\VR U' v v'/\Rel P w0 U' S' w'/\xM U w U' w':=by
 have hm:cN P e=some size:=by unfold cN;rw [hi];simp [TP]
 have Mp:z.cells.toList.length=size:=by simpa using Xk
 subst TP;unfold Dp at hk;split at hk
 ·
   cases hs.of_flat rfl;split at hk
   ·simp only [TM,nA,jB,Bm]at hk
    rw [eG]at hk Ch Cg;have fN:=RW (w:=w) (ty:=ty) (base:=none) (sLen:=0) (sCap:=sCap) (olds:=[]) h0 h1 ht Tg hi hz hlen (by omega) (by rw [eG];exact Cg) rfl hcD;rw [eG,Bm]at fN;obtain⟨U',r0,r1,r2⟩:=h.fresh hn Xh hm Mp Lf (grownCap_ge w n sCap e) (olds:=[]) (by simp);exact⟨U',_,_,_,_,hk,fN,r0,r1,r2⟩
   ·cases hk
 ·
   rename_i b o;rcases hs.mQ with ⟨L,c',hL,rfl,⟨_,rfl⟩ | ⟨AO,_⟩⟩ | ⟨⟨_,AO⟩,_⟩
   ·obtain⟨vs,e',ck,ho,hle,hk⟩:=FR hk
    obtain⟨aHG,Sn,hol,hcell⟩:=h.KG ho hL hle;simp only [TM,nA,jB]at hk;have fN:=RW (w:=w) (ty:=ty) (base:=some ⟨L.b,L.s+o,none⟩) (sLen:=sLen) (sCap:=c') (olds:=aHG) h0 h1 ht Tg hi hz hlen (by omega) Cg (run_loadCells (w:=w.drew) _ aHG hol hcell) hcD;obtain⟨U',r0,r1,r2⟩:=h.fresh (Sn.append hn) (by rw [jU,hol,Xh,<-KP]) hm Mp Lf (grownCap_ge w (sLen+n) c' e) (olds:=[]) (by simp);exact⟨U',_,_,_,_,hk,fN,r0,r1,r2⟩
   ·cases AO
   ·cases AO
 ·
   rename_i b o;rcases hs.mQ with ⟨L,c',hL,rfl,⟨AO,_⟩ | ⟨_,hcc,hnc,Ti,hmp⟩⟩ | ⟨⟨_,AO⟩,_⟩
   ·cases AO
   ·obtain⟨vs,e',ck,ho,hk⟩:=HI hk
    rw [nT]at hk;split at hk
    ·rename_i olds q aRM hq
     have hvl:=dE aRM;split at hk
     ·rename_i hqs RP hel
      have hqs:=dE hqs;subst hqs;have hel:=dE hel;rw [mY]at RP;have RP:=Ea hn (List.all_eq_true.1 RP);obtain⟨vs2,e2,ck2,BL,hle,hk⟩:=FR hk;rw [ho]at BL;injection BL with BL;injection BL with q1 q2 q3;subst q1 q2;obtain⟨aHG,Sn,hol,hcell⟩:=h.KG ho hL hle;simp only [TM,nA,jB,gS]at hk;obtain⟨cs,t',fz,hb,hcv,CA,aNa,hLe,hLm,_⟩:=h.cells ho hL;have hLm:L.m=i.size:=by rw [hq]at hLm;injection hLm with hLm;exact hLm.symm
      have hst:=h.uB ho;have hob:(S.set b (.cells vs e' .uB)).obj b=some (.cells vs e' .uB):=by rw [GV,aJ rfl]
      have aNL:=h.lt b _ ho
      have holds:∀q∈olds,q<S.n/\∀y,(S.set b (.cells vs e' .uB)).obj q=some y->aAW U b vs q y:=by
       intro q hq;obtain⟨g1,g2⟩:=h.old b vs e' olds ho q hq;refine⟨g1,fun y hy=>?_⟩;rw [GV]at hy;split at hy
       ·rename_i eq
        rcases g2 _ (eq▸ho)with g3 | ⟨ws,u,g3,_⟩
        ·cases g3
        ·injection g3 with _ _ g3;cases g3
       ·exact g2 y hy
      by_cases Jt:sLen+n<=c'
      ·
        have aPX:L.s+o+sLen*i.size+new'.length<=cs.size:=by
         rw [Xh,uO,<-KP,<-hLe];rw [hLm]at Ti;have:=RG i.size Jt;omega
        have hsc:=DJ (P:=P) new' w L.b (L.s+o+sLen*i.size) 0 cs t' fz hb (by simpa using aPX) (fun x ZI hx2=>aNa x (by simp at ZI hx2;omega)) RP;simp only [VN]at hsc;have aRN:cs.toList.length=cs.size:=rfl
        have Dz:∀j:Nat,(⟨aY (L.s+o+sLen*i.size) new' cs.toList⟩:Array Value)[j]? =if L.s+o+sLen*i.size<=j/\j<L.s+o+sLen*i.size+new'.length then new'[j-(L.s+o+sLen*i.size)]? else cs[j]? :=by
         intro j;have:=sB (L.s+o+sLen*i.size) new' cs.toList (by omega) j;simpa using this
        obtain⟨r1,r2⟩:=hst.aPW (S:=S.set b (.cells vs e' .uB)) hL hob (olds:=olds) holds
         (fun j y M hy hd hM hMb=>by
          rw [GV]at hy;split at hy
          ·rename_i eq;exact .inl eq
          ·rename_i eq
           rcases h.sep b j _ y L M (aO eq) ho hy rfl hd hL hM hMb.symm with ⟨g1,_⟩ | g1 | g1
           ·cases g1
           ·exact .inr g1
           ·cases y with
            | cells us u kk=>
             cases kk with
             | grown l=>
              obtain⟨_,g2⟩:=h.old j us u l hy b g1;rcases g2 _ ho with g3 | ⟨ws,u',g3,_⟩
              ·cases g3
              ·injection g3 with _ _ g3;cases g3
             | _=>cases g1
            | _=>cases g1)
         (cs':=⟨aY (L.s+o+sLen*i.size) new' cs.toList⟩) hb (by show(aY _ _ _).length=_;rw [GT _ _ _ (by omega)];exact aRN)
         (fun j hj=>by rw [Dz,aG (by omega)]) (e2:=e) (s2:=L.s+o) (new:=(vs.drop o).take (sLen*i.size)++new)
         (by
          have:=Sn.1;rw [jU];omega)
         (fun j v hj=>by
          have aPY:((vs.drop o).take (sLen*i.size)).length=sLen*i.size:=by rw [Sn.1,hol]
          rw [List.getElem?_append]at hj;rw [Dz];split at hj
          ·rename_i hlt
           rw [aPY]at hlt;rw [aG (by omega)];rw [pK,aJ hlt,oT]at hj;rw [uO];exact hcv _ _ hj
          ·rename_i hlt
           rw [aPY]at hlt hj;have hjl:=(List.getElem?_eq_some_iff.1 hj).1;have:=hn.1;rw [aJ (by omega),show L.s+o+j-(L.s+o+sLen*i.size)=j-sLen*i.size by omega];exact hn.get hj)
         aNa hLe (by rw [hLm];exact hm) hel CA
        refine⟨_,_,_,_,_,hk,RV (w1:=w.putObj L.b (.cells ⟨aY (L.s+o+sLen*i.size) new' cs.toList⟩ t' fz)) h0 h1 ht Tg hi hlen Jt hc (fun a ha=>?_) (fun e=>by cases e),?_,r1,?_⟩
        ·injection ha with ha
         rw [<-ha,rG];exact hsc
        ·have hL2:=Rn.mK U S.n ⟨L.b,L.s+o,L.e,L.m⟩
         exact VR.rF (o:=0) (n:=sLen+n) (c:=sLen+n) (c':=c') hL2 Jt (bR _) Ti hmp
        ·exact r2
      ·
        have fN:=RW (w:=w) (ty:=ty) (base:=some ⟨L.b,L.s+o,none⟩) (sLen:=sLen) (sCap:=c') (olds:=aHG) h0 h1 ht Tg hi hz hlen (by omega) Cg (run_loadCells (w:=w.drew) _ aHG hol hcell) hcD
        obtain⟨U',r0,r1,r2⟩:=hst.fresh (S:=S.set b (.cells vs e' .uB)) (Sn.append hn) (by rw [jU,hol,Xh,<-KP]) hm Mp Lf (grownCap_ge w (sLen+n) c' e) (olds:=b::olds)
         (fun q hq=>by
          rcases List.mem_cons.1 hq with rfl | hq
          ·refine⟨aNL,fun y hy=>?_⟩
           rw [hob]at hy;injection hy with hy;exact .inr ⟨vs,e',hy.symm⟩
          ·obtain⟨g1,g2⟩:=holds q hq
           refine⟨g1,fun y hy=>?_⟩;rcases g2 y hy with g3 | ⟨ws,u,g3,_⟩
           ·exact .inl g3
           ·exact .inr ⟨ws,u,g3⟩)
        exact⟨U',_,_,_,_,hk,fN,r0,r1,r2⟩
     ·cases hk
    ·cases hk
   ·cases AO
 ·cases hk
theorem Tj (h:Rel P w0 U S w){ts:Array TypeId}{ty:TypeId}{s s' x x':Value}{K:VK} (hk:RO P ts.toList s x S K=true) (hs:VR U s s') (hx:VR U x x'):
 ∃U' v S' v' w',K v S'=true/\(Builtin.append_ ts ty #[s',x']).run P w= .ok v' w'/\VR U' v v'/\Rel P w0 U' S' w'/\xM U w U' w':=by
 unfold RO at hk;split at hk
 ·rename_i sT xT rest Oj
  have h0:ts[0]? =some sT:=by have:=iZ (·[0]?) Oj;simpa using this
  have h1:ts[1]? =some xT:=by have:=iZ (·[1]?) Oj;simpa using this
  split at hk
  ·rename_i elem he Tg
   have ht:=gE he;split at hk
   ·rename_i info hi
    split at hk
    ·rename_i size z base sLen sCap TP hz
     split at hk
     ·rename_i Xk
      have Xk:=dE Xk;obtain⟨n,hk,hlen,hf0⟩:=Js (P:=P) hk hx;split at hk
      ·
        split at hk
        ·rename_i hle
         have hle:=cG hle
         have main:∀Vc c',sLen<=c'->s'= .slice Vc sLen c'->∃U' v S' v' w',K v S'=true/\(Builtin.append_ ts ty #[s',x']).run P w= .ok v' w'/\VR U' v v'/\Rel P w0 U' S' w'/\xM U w U' w':=by
          intro Vc c' hc' e;refine⟨U,_,S,_,w,hk,?_,hs,h,.refl U w⟩;rw [e];exact RV (w1:=w) h0 h1 ht Tg hi hlen (by omega) (hf0 _ w) (fun a _=>by rfl) (fun _=>rfl)
         cases hs with
         | flat _=>exact main _ _ hle rfl
         | slice _=>exact main _ _ hle rfl
         | rF _ _ _ _ _=>exact main _ _ (by omega) rfl
         | DD=>exact main _ _ (by omega) rfl
         | DF _=>exact main _ _ (by omega) rfl
        ·cases hk
      ·obtain⟨new,new',hk,hn,Xh,hc,hcD⟩:=Dy h hk hx
       rw [bK]at hk;split at hk
       ·rename_i hb
        have hb:=aHv hb;split at hk
        ·rename_i Ch
         exact Xq (_x:=x) h h0 h1 ht Tg hi TP hs hlen hn hc (cG Ch) hk
        ·rename_i Ch
         exact Th (_x:=x) h h0 h1 ht Tg hi TP hz Xk (Nat.succ_pos _) hs hlen hn Xh hc hcD (fun e=>by rw [nJ e]at Ch;cases Ch) hb hk
       ·cases hk
     ·cases hk
    ·cases hk
   ·cases hk
  ·cases hk
 ·cases hk
theorem aAY (h:Rel P w0 U S w){ts:Array TypeId}{ty:TypeId}{d d' x x':Value}{K:VK} (hk:Ux P ts.toList d x S K=true) (hd:VR U d d') (hx:VR U x x'):
 ∃v S' v' w',K v S'=true/\(Builtin.copy_ ts ty #[d',x']).run P w= .ok v' w'/\VR U v v'/\Rel P w0 U S' w'/\xM U w U w':=by
 unfold Ux at hk;split at hk
 ·rename_i dT rest Oj
  have h0:ts[0]? =some dT:=by have:=iZ (·[0]?) Oj;simpa using this
  split at hk
  ·rename_i elem he
   have ht:=gE he;split at hk
   ·rename_i size base aNH aTg TP
    obtain⟨m,hk,hlen,hf0⟩:=Js (P:=P) hk hx;rw [bK]at hk;split at hk
    ·rename_i aF0
     refine⟨_,S,.int .i64 0,w,hk,?_,.flat rfl,h,.refl U w⟩
     have main:∀Vc c',(Builtin.copy_ ts ty #[.slice Vc aNH c',x']).run P w= .ok (.int .i64 0) w:=by
      intro Vc c';cases Vc with
      | none=>simp only [Builtin.copy_,List.getElem?_toArray,Wv,Bg,h0,cP,run_underlying ht,eE,hlen,jA TP,aF0,hf0,kJ,goInt];rfl
      | some a=>simp only [Builtin.copy_,List.getElem?_toArray,Wv,Bg,h0,cP,run_underlying ht,eE,hlen,jA TP,aF0,hf0,kJ,goInt];rfl
     cases hd with
     | flat _=>exact main _ _
     | slice _=>exact main _ _
     | rF _ _ _ _ _=>exact main _ _
     | DD=>exact main _ _
     | DF _=>exact main _ _
    ·rename_i n' aF0
     obtain⟨new,new',hk,hn,Xh,hc,hcD⟩:=Dy h hk hx;split at hk
     ·rename_i i o sp
      split at hk
      ·rename_i AO RP
       rw [mY]at RP;have RP:=Ea hn (List.all_eq_true.1 RP);rcases hd.mQ with ⟨L,c',hL,rfl,_⟩ | ⟨⟨_,aHF⟩,_⟩
       ·obtain⟨S',w',hk,r1,r2,fN⟩:=DI h hk hL hn RP
        refine⟨_,S',.int .i64 ((n'+1:Nat):Int),w',hk,?_,.flat rfl,r1,r2⟩;simp only [Builtin.copy_,List.getElem?_toArray,Wv,Bg,h0,cP,run_underlying ht,eE,hlen,jA TP,aF0,hc,fN,kJ,goInt]
       ·rw [aHF]at AO;cases AO
      ·cases hk
     ·cases hk
   ·cases hk
  ·cases hk
 ·cases hk
end app
section ops
variable{P:Program}{w0:World}{U:Rn}{S:St}{w:World}
def Out (P:Program) (w0:World) (U:Rn) (w:World) (K:VK) (s:Sem Next):Prop:=
 ∃r U' v S' v' w',K v S'=true/\s.run P w= .ok r w'/\(r= .value v'\/(r= .skip/\v'=undef))/\VR U' v v'/\Rel P w0 U' S' w'/\xM U w U' w'
theorem Out.here (h:Rel P w0 U S w){K:VK}{s:Sem Value}{v v':Value} (hk:K v S=true) (hv:VR U v v') (hr:s.run P w= .ok v' w):Out P w0 U w K (do pure (.value (<-s))):=
 ⟨_,U,v,S,v',w,hk,by rw [cP,hr];rfl,.inl rfl,hv,h,.refl U w⟩
theorem Out.new{K:VK}{s:Sem Value} (h:∃U' v S' v' w',K v S'=true/\s.run P w= .ok v' w'/\VR U' v v'/\Rel P w0 U' S' w'/\xM U w U' w'):Out P w0 U w K (do pure (.value (<-s))):=by
 obtain⟨U',v,S',v',w',hk,hr,hv,h1,h2⟩:=h;exact⟨_,U',v,S',v',w',hk,by rw [cP,hr];rfl,.inl rfl,hv,h1,h2⟩
theorem Out.unit{K:VK}{s:Sem Unit} (h:∃S' w',K undef S'=true/\Rel P w0 U S' w'/\xM U w U w'/\s.run P w= .ok () w'):Out P w0 U w K (do s;pure .skip):=by
 obtain⟨S',w',hk,h1,h2,hr⟩:=h;exact⟨_,U,undef,S',undef,w',hk,by rw [cP,hr];rfl,.inr ⟨rfl,rfl⟩,.tuple rfl (by simp),h1,h2⟩
theorem VR.nat{k:IntKind}{n:Nat}:VR U (.int k (.ofNat n)) (.int k (n:Int)):= .flat rfl
theorem VR.undef:VR U undef undef:= .tuple rfl (by simp)
theorem aCQ{ts:Array TypeId}{ty t e:TypeId}{zero:List Value}{n c:Nat}{a:Addr}{w':World} (h0:ts[0]? =some t) (ht:P.underlying t=some (.slice e)) (hz:wM P e=some zero) (hn:n≠0) (oJ:zero≠[])
 (hs:(storeCells a (List.replicate n zero).flatten).run P w= .ok () w'):(Builtin.clear_ ts ty #[.slice (some a) n c]).run P w= .ok (.tuple #[]) w':=by
 obtain⟨zv,Hy,Sm⟩:=FQ hz w
 have hzz:Builtin.zeroCells zv.cells n=⟨(List.replicate n zero).flatten⟩:=by
  have:=PV zero zv.cells Sm n oJ;have hl:zv.cells.size=zero.length:=by rw [<-Sm];rfl
  unfold Builtin.zeroCells;rw [show n*zv.cells.size=n*zero.length by rw [hl]];exact this
 cases n with
 | zero=>exact aX rfl hn
 | succ n=>simp [Builtin.clear_,h0,run_underlying ht,Hy,hzz,hs]
theorem aF2{ts:Array TypeId}{ty:TypeId}{j:IntKind}{K:Value->Bool}:∀{l l':List Value} {x:Int},ZY false l j x K=true->lM U l l'->∃y,K (.int j y)=true/\∀w,(Builtin.min_ ts ty ⟨.int j x::l'⟩).run P w= .ok (.int j y) w:=by
 intro l;induction l with
 | nil=>intro l' x hk hl;cases hl.kS;exact⟨x,hk,fun w=>by simp [Builtin.min_]⟩
 | cons v l ih=>
  intro l' x hk hl;obtain⟨v',t',rfl,hv,ht⟩:=hl.dH;cases v with
  | int k y=>
   cases hv.of_flat rfl;have hk:fX (ltI y x) (ZY false l j y K) (ZY false l j x K)=true:=hk;rw [WD]at hk;by_cases hlt:y<x
   ·rw [bF hlt]at hk
    obtain⟨z,hz,hr⟩:=ih hk ht;refine⟨z,hz,fun w=>?_⟩;have:=hr w;simp only [Builtin.min_,List.foldlM_cons,Builtin.min2,aJ hlt,cP,kJ,eE]at this ⊢;exact this
   ·rw [bJ hlt]at hk
    obtain⟨z,hz,hr⟩:=ih hk ht;refine⟨z,hz,fun w=>?_⟩;have:=hr w;simp only [Builtin.min_,List.foldlM_cons,Builtin.min2,aG hlt,cP,kJ,eE]at this ⊢;exact this
  | _=>cases hk
theorem aF3{ts:Array TypeId}{ty:TypeId}{j:IntKind}{K:Value->Bool}:∀{l l':List Value} {x:Int},ZY true l j x K=true->lM U l l'->∃y,K (.int j y)=true/\∀w,(Builtin.max_ ts ty ⟨.int j x::l'⟩).run P w= .ok (.int j y) w:=by
 intro l;induction l with
 | nil=>intro l' x hk hl;cases hl.kS;exact⟨x,hk,fun w=>by simp [Builtin.max_]⟩
 | cons v l ih=>
  intro l' x hk hl;obtain⟨v',t',rfl,hv,ht⟩:=hl.dH;cases v with
  | int k y=>
   cases hv.of_flat rfl;have hk:fX (ltI x y) (ZY true l j y K) (ZY true l j x K)=true:=hk;rw [WD]at hk;by_cases hlt:x<y
   ·rw [bF hlt]at hk
    obtain⟨z,hz,hr⟩:=ih hk ht;refine⟨z,hz,fun w=>?_⟩;have:=hr w;simp only [Builtin.max_,List.foldlM_cons,Builtin.max2,aJ hlt,cP,kJ,eE]at this ⊢;exact this
   ·rw [bJ hlt]at hk
    obtain⟨z,hz,hr⟩:=ih hk ht;refine⟨z,hz,fun w=>?_⟩;have:=hr w;simp only [Builtin.max_,List.foldlM_cons,Builtin.max2,aG hlt,cP,kJ,eE]at this ⊢;exact this
  | _=>cases hk
theorem Or (h:Rel P w0 U S w){b:Builtin}{ts:Array TypeId}{ty:TypeId}{cs:Array Bool}{args eK:List Value}{K:VK} (hk:oL P b ts.toList args S K=true) (ha:lM U args eK):
 Out P w0 U w K (builtin b ts ty cs ⟨eK⟩):=by
 unfold oL at hk;split at hk
 ·
   rename_i x;obtain⟨x',t',rfl,hx,ht'⟩:=ha.dH;cases ht'.kS;split at hk
   ·rename_i t rest Oj
    have h0:ts[0]? =some t:=by have:=iZ (·[0]?) Oj;simpa using this
    split at hk
    ·rename_i base n c
     split at hk
     ·rename_i e he
      have hu:=gE he;refine Out.here h hk (v':= .int .i64 (n:Int)) .nat ?_;have main:∀b' c',(Builtin.len_ ts ty ⟨[.slice b' n c']⟩).run P w= .ok (.int .i64 (n:Int)) w:=fun b' c'=>by simp [Builtin.len_,h0,run_underlying hu,goInt]
      cases hx with
      | flat _=>exact main _ _
      | slice _=>exact main _ _
      | rF _ _ _ _ _=>exact main _ _
      | DD=>exact main _ _
      | DF _=>exact main _ _
     ·cases hk
    ·rename_i s
     cases hx.of_flat rfl;split at hk
     ·rename_i hu
      rw [nT]at hk;refine Out.here h hk (v':= .int .i64 (s.data.toList.length:Int)) .nat ?_;simp [Builtin.len_,h0,run_underlying hu,goInt]
     ·cases hk
    ·rename_i r
     split at hk
     ·rename_i q hm
      have hu:=BZ hm;rcases KH hk with ⟨e1,vL⟩ | ⟨r,es,c,e1,ho,vL⟩
      ·rw [e1]at hx
       cases hx.of_flat rfl;exact Out.here h vL (v':= .int .i64 0) (.flat rfl) (by simp [Builtin.len_,h0,run_underlying hu,goInt])
      ·rw [e1]at hx
       obtain⟨L,hL,rfl⟩:=hx.JV;obtain⟨jO,_,hb,YM⟩:=h.map ho hL;simp only [nT]at vL;refine Out.here h vL (v':= .int .i64 (es.length:Int)) .nat ?_;have hl:jO.size=es.length:=by rw [YM.1];rfl
       simp [Builtin.len_,h0,run_underlying hu,MapKept.run_getObj_map hb,goInt,hl]
     ·cases hk
    ·split at hk
     ·rename_i n e hu
      exact Out.here h hk (v':= .int .i64 (n:Int)) .nat (by simp [Builtin.len_,h0,run_underlying hu,goInt])
     ·cases hk
    ·cases hk
   ·cases hk
 ·obtain⟨s',t1,rfl,hs,ht1⟩:=ha.dH
  obtain⟨x',t2,rfl,hx,ht2⟩:=ht1.dH;cases ht2.kS;exact Out.new (Tj h hk hs hx)
 ·obtain⟨s',t1,rfl,hs,ht1⟩:=ha.dH
  obtain⟨x',t2,rfl,hx,ht2⟩:=ht1.dH;cases ht2.kS;obtain⟨v,S',v',w',h1,h2,h3,h4,h5⟩:=aAY h hk hs hx;exact Out.new ⟨U,v,S',v',w',h1,h2,h3,h4,h5⟩
 ·obtain⟨s',t1,rfl,hs,ht1⟩:=ha.dH
  obtain⟨x',t2,rfl,hx,ht2⟩:=ht1.dH;cases ht2.kS;obtain⟨S',w',h1,h2,h3,h4⟩:=Td (t:=ty) h hk hs hx;exact Out.new ⟨U,_,S',_,w',h1,h4,.undef,h2,h3⟩
 ·rename_i j x l
  obtain⟨s',t1,rfl,hs,ht1⟩:=ha.dH;cases hs.of_flat rfl;obtain⟨y,hk,fN⟩:=aF2 hk ht1;exact Out.here h hk (.flat rfl) (fN w)
 ·rename_i j x l
  obtain⟨s',t1,rfl,hs,ht1⟩:=ha.dH;cases hs.of_flat rfl;obtain⟨y,hk,fN⟩:=aF3 hk ht1;exact Out.here h hk (.flat rfl) (fN w)
 ·
   rename_i x;obtain⟨x',t',rfl,hx,ht'⟩:=ha.dH;cases ht'.kS;split at hk
   ·rename_i t rest Oj
    have h0:ts[0]? =some t:=by have:=iZ (·[0]?) Oj;simpa using this
    split at hk
    ·rename_i c he
     have hu:=gE he;cases hx.of_flat rfl;exact Out.here h hk (v':= .int .i64 (c:Int)) .nat (by simp [Builtin.cap_,h0,run_underlying hu,goInt])
    ·rename_i c he
     have hu:=gE he;rcases hx.mQ with ⟨L,c1,hL,rfl,⟨_,rfl⟩ | ⟨hs,_⟩⟩ | ⟨⟨_,hs⟩,_⟩
     ·exact Out.here h hk (v':= .int .i64 (c1:Int)) .nat (by simp [Builtin.cap_,h0,run_underlying hu,goInt])
     ·cases hs
     ·cases hs
    ·cases hk
   ·cases hk
 ·
   rename_i base n c;obtain⟨s',t1,rfl,hs,ht1⟩:=ha.dH;cases ht1.kS;split at hk
   ·rename_i t rest Oj
    have h0:ts[0]? =some t:=by have:=iZ (·[0]?) Oj;simpa using this
    split at hk
    ·rename_i elem he
     have hu:=gE he;split at hk
     ·rename_i size zero hsz hz
      split at hk
      ·cases hs.of_flat rfl
       exact Out.here h hk .undef (v':= .tuple #[]) (by simp [Builtin.clear_,h0,run_underlying hu])
      ·refine Out.here h hk .undef (v':= .tuple #[]) ?_
       have main:∀b' c',(Builtin.clear_ ts ty ⟨[.slice b' 0 c']⟩).run P w= .ok (.tuple #[]) w:=fun b' c'=>by cases b'<;>simp [Builtin.clear_,h0,run_underlying hu]
       cases hs with
       | flat _=>exact main _ _
       | slice _=>exact main _ _
       | rF _ _ _ _ _=>exact main _ _
       | DD=>exact main _ _
       | DF _=>exact main _ _
      ·rename_i i o sp n
       split at hk
       ·rename_i q AO Jq Mp
        rw [GU]at hk;rw [mY]at Jq;have aPZ:∀v∈zero,bW v=true:=List.all_eq_true.1 Jq;have Mp:=dE Mp;have Uy:lM U (List.replicate (n+1) zero).flatten (List.replicate (n+1) zero).flatten:=(lM.flat aPZ).flatten _;rcases hs.mQ with ⟨L,c',hL,rfl,_⟩ | ⟨⟨_,aHF⟩,_⟩
        ·obtain⟨S',w',hk,r1,r2,fN⟩:=DI h hk hL Uy (fun v hv=>by
          simp only [List.mem_flatten,List.mem_replicate]at hv;obtain⟨l,⟨_,rfl⟩,hv⟩:=hv;have:=aPZ v hv;cases v<;>first | rfl | (simp [bW]at this))
         exact Out.new ⟨U,_,S',_,w',hk,aCQ h0 hu hz (by omega) (by intro e;rw [e]at Mp;simp at Mp) fN,.undef,r1,r2⟩
        ·rw [aHF]at AO;cases AO
       ·cases hk
     ·cases hk
    ·cases hk
   ·cases hk
 ·cases hk
end ops
end Go.Am
