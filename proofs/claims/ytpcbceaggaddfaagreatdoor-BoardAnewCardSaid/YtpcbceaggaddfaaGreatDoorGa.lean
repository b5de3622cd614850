/- AM, an abstract machine for the model's code: its state, its operations, its evaluator: plain definitions, no theorem about any program. -/
import Derived.OrdersIn
import Derived.RangeFuncIn
import Derived.RangeFuncLeaves
import Derived.Below
import GoSem.Dispatch
import Derived.RangeFuncRecord
import Derived.Laws.StructEq
import Derived.Laws.MakeOwn
import Derived.MapKept
import Derived.Laws.IdiomStrings
import Derived.Laws.BytesArg
import Derived.Maps.RangeRun
import Derived.Laws.AppendOwn

noncomputable section
set_option maxRecDepth 100000
set_option linter.unusedVariables false
namespace Go.Am
abbrev aP:= @List.getElem?_eq_getElem
abbrev aW:= @Nat.le_of_ble_eq_true
abbrev aR:= @decide_eq_false
abbrev bH:= @List.length_append
abbrev aU:= @decide_eq_true
abbrev dS:= @List.getElem?_eq_some_iff
abbrev bQ:= @Bool.false_eq_true
abbrev cT:= @Nat.eq_of_beq_eq_true
abbrev fB:= @List.getElem?_append_left
abbrev bW:= @Bool.and_eq_true
abbrev iG:= @List.getElem?_append_right
abbrev dU:= @Result.andThen_ok
abbrev bI:= @Nat.le_refl
abbrev dJ:= @List.all_eq_true
abbrev mS:= @List.eq_nil_of_length_eq_zero
abbrev bY:= @Sem.run_bind
abbrev jT:= @Nat.ble_eq_true_of_le
abbrev nN:= @Array.getElem?_eq_some_iff
abbrev pV:= @Nat.exists_eq_succ_of_ne_zero
abbrev dA:= @List.mem_cons
abbrev eH:= @Bool.not_true
abbrev lB:= @Nat.mul_le_mul_right
abbrev jA:= @List.getElem?_map
abbrev gE:= @List.mem_filter
abbrev lR:= @Int.ofNat_eq_natCast
abbrev iR:= @Array.toList_inj
abbrev kR:= @List.getElem?_take
abbrev kS:= @List.getElem?_drop
abbrev jL:= @List.length_take
abbrev oS:= @List.take_of_length_le
abbrev jB:= @List.length_map
abbrev iH:= @Bool.not_false
abbrev gB:= @Nat.zero_add
abbrev gF:= @Nat.zero_le
abbrev nO:= @List.getElem_mem
abbrev oT:= @Nat.lt_succ_of_lt
abbrev nP:= @List.append_nil
abbrev zG:= @List.drop_eq_getElem_cons
abbrev jU:= @Sem.run_pure
abbrev qS:= @List.length_cons
abbrev qT:= @List.length_drop
abbrev wI:= @List.mem_of_getElem?
abbrev tN:= @List.pairwise_cons
abbrev qU:= @Bool.eq_iff_iff
abbrev tO:= @List.take_add_one
abbrev mF:= @List.mem_map
abbrev dB:= @Ne.symm
abbrev uO:= @List.ext_getElem?
abbrev lS:= @Nat.mul_one
abbrev mG:= @Nat.add_mul
abbrev DU:= @List.length_filter_le
abbrev xR:= @Bool.not_eq_true'
abbrev uP:= @List.mem_append
abbrev ME:= @List.getD_eq_getElem?_getD
abbrev xS:= @Nat.lt_succ_self
abbrev GH:= @List.getElem?_eq_none
abbrev GI:= @List.getElem?_of_mem
abbrev DV:= @Nat.lt_of_lt_of_le
abbrev uQ:= @Nat.add_assoc
abbrev zH:= @Option.map_some
abbrev tP:= @Nat.le_trans
abbrev DW:= @List.append_assoc
abbrev MF:= @List.take_append_drop
abbrev JY:= @Nat.add_eq_zero_iff
abbrev lT:= @congrArg
abbrev UM:= @Array.toList_setIfInBounds
abbrev OW:= @List.getElem?_cons_succ
abbrev xU:= @List.map_cons
abbrev UN:= @List.pairwise_iff_getElem
abbrev OX:= @Nat.ne_of_beq_eq_false
abbrev OY:= @List.drop_of_length_le
abbrev MG:= @List.getElem_of_mem
abbrev MH:= @Nat.eq_zero_or_pos
abbrev DX:= @List.drop_zero
abbrev zJ:= @Nat.lt_or_ge
abbrev JZ:= @List.filter_cons
abbrev Aw:= @Array.getElem?_eq_getElem
abbrev MI:= @of_decide_eq_true
abbrev Ax:= @Option.isSome_iff_exists
abbrev KA:= @Nat.one_ne_zero
abbrev UO:= @List.getElem?_set_ne
abbrev Ri:= @List.findIdx?_eq_some_iff_getElem
abbrev KB:= @List.drop_drop
abbrev UP:= @Array.getElem?_push
abbrev Im:= @Option.isNone_iff_eq_none
abbrev Io:= @List.mem_of_find?_eq_some
abbrev UQ:= @List.filter_append
abbrev UR:= @List.find?_eq_none
abbrev Ip:= @List.getElem?_cons_zero
abbrev Iq:= @decide_eq_false_iff_not
abbrev OZ:= @Bool.or_eq_true
abbrev PA:= @List.foldl_cons
abbrev PB:= @List.nil_append
abbrev KC:= @Nat.zero_mul
abbrev Rj:= @Array.getD_eq_getD_getElem?
abbrev US:= @List.take_length
abbrev UT:= @List.mem_reverse
abbrev Ay:= @List.mem_singleton
abbrev Az:= @Array.ext_getElem?
abbrev Bb:= @of_decide_eq_false
abbrev PC:= @List.mem_range
abbrev Bc:= @Option.isSome_some
abbrev Ir:= @Array.getElem?_toList
abbrev UU:= @List.find?_some
abbrev UV:= @List.nodup_cons
abbrev Be:= @List.any_eq_false
abbrev MJ:= @Nat.add_zero
abbrev MK:= @Nat.beq_refl
abbrev Bf:= @List.flatMap_cons
abbrev Bg:= @List.flatten_cons
abbrev PD:= @List.all_cons
abbrev aBx:= @Array.getElem?_setIfInBounds_ne
abbrev Is:= @List.getElem?_range
abbrev Bh:= @Option.bind_some
abbrev aBy:= @Array.eq_empty_of_size_eq_zero
abbrev Iu:= @Option.isSome_none
abbrev aBz:= @Array.getElem?_setIfInBounds
abbrev UW:= @Int.ofNat.inj
abbrev Rk:= @List.getElem?_toArray
abbrev Rl:= @List.contains_iff_mem
abbrev Iv:= @List.getElem?_set
abbrev Bi:= @List.mapM_cons
abbrev Iw:= @List.mem_flatMap
abbrev Ix:= @List.any_eq_true
abbrev Ro:= @List.takeWhile_cons
abbrev Rp:= @List.replicate_succ
abbrev Rq:= @List.filter_eq_self
abbrev Rr:= @List.flatMap_append
abbrev aBA:= @Array.size_setIfInBounds
abbrev Iy:= @List.map_append
abbrev Iz:= @List.filter_nil
abbrev Ja:= @List.drop_left'
abbrev aBB:= @List.pairwise_singleton
abbrev aBC:= @Nat.add_sub_cancel_left
abbrev aGq:= @List.set_eq_take_append_cons_drop
abbrev aBD:= @Array.getElem?_eq_none
abbrev aGr:= @List.exists_of_findSome?_eq_some
abbrev aBE:= @Array.getElem?_modify
abbrev Rs:= @List.foldlM_cons
abbrev Jb:= @Bool.true_and
abbrev aBF:= @Array.toList_extract
abbrev Bj:= @Nat.sub_mul
abbrev aBG:= @List.mem_of_mem_drop
abbrev aBH:= @List.mem_cons_of_mem
abbrev aBI:= @Array.toArray_toList
abbrev Rt:= @List.take_left'
abbrev Ru:= @Array.size_push
abbrev Rv:= @List.length_nil
abbrev aBJ:= @Array.toList_modify
abbrev aBK:= @List.drop_succ_cons
abbrev Jc:= @Nat.le_of_eq
abbrev aBL:= @Array.foldl_toList
abbrev Bl:= @Nat.beq_eq
abbrev Jd:= @Nat.le_succ
abbrev Je:= @Int.le_refl
abbrev Rw:= @List.any_cons
abbrev zI:Value:= .int .i64 (.ofNat 0)
abbrev zS:Value:= .string ⟨⟨[]⟩⟩
abbrev zL:Value:= .slice none 0 0
abbrev zF:Value:= .bool false
inductive Tr(α:Type)where
 | leaf
 | node (v:Option α) (l r:Tr α)
namespace Tr
variable{α:Type}
def get:Tr α->Nat->Option α
 | leaf,_=>none
 | node v l r,n=>if n=0 then v else if n%2=1 then l.get (n / 2)else r.get (n / 2-1)
def FE(x:α):Nat->Tr α->Nat->Tr α
 | 0,t,_=>t
 | f+1,leaf,n=>if n=0 then node (some x) leaf leaf else if n%2=1 then node none (FE x f leaf (n / 2)) leaf else node none leaf (FE x f leaf (n / 2-1))
 | f+1,node v l r,n=>if n=0 then node (some x) l r else if n%2=1 then node v (FE x f l (n / 2)) r else node v l (FE x f r (n / 2-1))
def put(t:Tr α)(n:Nat)(x:α):Tr α:=FE x (n+1) t n
end Tr
section
variable{α:Type}{β:Type}
def oU(n:Nat)(z:β)(s:Nat->β):β:=Nat.rec (motive:=λ_=>β) z (λp _=>s p) n
def dL(b:Bool)(t f:β):β:=Bool.rec (motive:=λ_=>β) f t b
def aN6(o:Option α)(z:β)(s:α->β):β:=Option.rec (motive:=λ_=>β) z s o
def aLC(n:Int)(z:Nat->β)(s:Nat->β):β:=Int.rec (motive:=λ_=>β) z s n
def Jf(l:List α)(z:β)(s:α->List α->β):β:=List.rec (motive:=λ_=>β) z (λa t _=>s a t) l
def ML(z:β)(s:Nat->β->β)(n:Nat):β:=Nat.rec (motive:=λ_=>β) z s n
def fS(z:β)(s:α->List α->β->β)(l:List α):β:=List.rec (motive:=λ_=>β) z s l
def aN7(z:β)(s:Option α->Tr α->Tr α->β->β->β)(t:Tr α):β:=Tr.rec (motive:=λ_=>β) z s t
def aDt(t:Tr α)(z:β)(s:Option α->Tr α->Tr α->β):β:=Tr.rec (motive:=λ_=>β) z (λv l r _ _=>s v l r) t
def aN8(skip:β)(region:Array Oper->Bool->β)(seq:β->β->β)(cond:Operand->β->β->β)(block:Nat->β->β)(loop scope:β->β)
 (range:Operand->Array Tmp->Code->Code->β) (exit:Nat->β) (label ret bad:β) (c:Code):β:=
 Code.rec (motive:=λ_=>β) skip (λ_ ops draw=>region ops draw) (λ_ _ a b=>seq a b) (λc _ _ a b=>cond c a b) (λid _ h=>block id h) (λ_ h=>loop h)
  (λf ps a b _ _=>range f ps a b) exit (λ_ h=>scope h) (λ_=>label) (λ_=>bad) ret (λ_=>bad) c
end
def oV{α:Type}(t:Tr α)(n:Nat)(k:α->Bool):Bool:=
 aN7 (β:=Nat->Bool) (λ_=>false) (λv _ _ gl gr n=>oU n (aN6 v false k) λp=>oU (Nat.mod p 2) (gl (Nat.div p 2)) λ_=>gr (Nat.div p 2)) t n
def SY{α:Type}(x:α)(f:Nat):Tr α->Nat->(Tr α->Bool)->Bool:=
 ML (β:=Tr α->Nat->(Tr α->Bool)->Bool) (λt _ k=>k t)
  (λ_ ih t n k=>aDt t
   (oU n (k (.node (some x) .leaf .leaf)) λp=>oU (Nat.mod p 2) (ih .leaf (Nat.div p 2) λc=>k (.node none c .leaf)) λ_=>ih .leaf (Nat.div p 2) λc=>k (.node none .leaf c))
   (λv l r=>oU n (k (.node (some x) l r)) λp=>oU (Nat.mod p 2) (ih l (Nat.div p 2) λc=>k (.node v c r)) λ_=>ih r (Nat.div p 2) λc=>k (.node v l c))) f
def cG(n:Nat)(k:Nat->Bool):Bool:=oU n (k 0) λp=>k (Nat.succ p)
def zK(n:Int)(k:Int->Bool):Bool:=aLC n (λm=>cG m λm=>k (.ofNat m)) (λm=>cG m λm=>k (.negSucc m))
def UX(b:Bool)(k:Bool->Bool):Bool:=dL b (k true) (k false)
def SZ{α:Type}(l:List α)(i:Nat)(k:α->Bool):Bool:=
 fS (β:=Nat->Bool) (λ_=>false) (λa _ ih i=>oU i (k a) λp=>ih p) l i
def aDu{α:Type}(v:α)(l:List α)(i:Nat)(k:List α->Bool):Bool:=
 fS (β:=Nat->(List α->Bool)->Bool) (λ_ k=>k []) (λa t ih i k=>oU i (k (v::t)) λp=>ih p λt'=>k (a::t')) l i k
def aJG{α:Type}(l:List α)(k:List α->Bool):Bool:=
 fS (β:=(List α->Bool)->Bool) (λk=>k []) (λa _ ih k=>ih λt=>k (a::t)) l k
def zN{α:Type}(l m:List α)(k:List α->Bool):Bool:=
 fS (β:=(List α->Bool)->Bool) (λk=>k m) (λa _ ih k=>ih λt=>k (a::t)) l k
def PE{α:Type}(n:Nat)(l:List α)(k:List α->Bool):Bool:=
 ML (β:=List α->(List α->Bool)->Bool) (λ_ k=>k []) (λ_ ih l k=>Jf l false λa t=>ih t λt'=>k (a::t')) n l k
def IM{α:Type}(n:Nat)(l:List α)(k:List α->Bool):Bool:=
 ML (β:=List α->Bool) (λl=>k l) (λ_ ih l=>Jf l false λ_ t=>ih t) n l
def Xl{α:Type}(new:List α)(l:List α)(k:List α->Bool):Bool:=
 fS (β:=List α->(List α->Bool)->Bool) (λl k=>k l) (λa _ ih l k=>Jf l false λ_ t=>ih t λt'=>k (a::t')) new l k
def rF{α:Type}(off:Nat)(new l:List α)(k:List α->Bool):Bool:=
 ML (β:=List α->(List α->Bool)->Bool) (λl k=>Xl new l k) (λ_ ih l k=>Jf l false λa t=>ih t λt'=>k (a::t')) off l k
def CU{α:Type}(l:List α)(k:Nat->Bool):Bool:=
 fS (β:=Nat->Bool) (λn=>k n) (λ_ _ ih n=>cG (Nat.succ n) ih) l 0
def Xm{α:Type}(z:List α)(n:Nat)(k:List α->Bool):Bool:=
 ML (β:=List α->Bool) (λacc=>k acc) (λ_ ih acc=>zN z acc ih) n []
inductive CK where
 | exact
 | grown (olds:List Nat)
 | sA
 | ro
 | rs
structure Tm where
 t:Tr Value
 n:Nat
def SC(T:Tm)(i:Nat)(k:Value->Bool):Bool:=oV T.t i k
def sB(v:Value)(T:Tm)(i:Nat)(k:Tm->Bool):Bool:=
 match Nat.blt i T.n with
 | true=>SY v (Nat.succ i) T.t i λt=>k ⟨t,T.n⟩
 | false=>false
def aDv(n:Nat)(args:List Value)(k:Tm->Bool):Bool:=
 fS (β:=Nat->Tm->Bool) (λ_ T=>k T) (λa _ ih i T=>sB a T i λT=>cG (Nat.succ i) λi=>ih i T) args 0 ⟨.leaf,n⟩
inductive iP where
 | dead
 | cells (vs:List Value) (elem:TypeId) (k:CK)
 | map (es:List MapEntry) (clock:Nat)
 | loop (tmps:Tm) (params:List Tmp) (assign body:Code) (state:LoopState) (pending:Option Code)
 | defers
 | iter (m:Option Nat) (since:Nat) (seen:List Nat) (last:Nat)
structure St where
 h:Tr iP
 n:Nat
inductive wB where
 | normal
 | exit (id:Nat)
 | ret
structure aO where
 tmps:Tm
 marks:List Nat
 g:Nat
abbrev VK:=Value->St->Bool
abbrev aDw:=FuncId->List Value->St->VK->Bool
def bE:Value->Bool
 | .bool _ | .int .. | .string _ | .nilFunc | .nilIface | .pointer none | .slice none _ _ | .map none=>true
 | _=>false
def EP(rX bytes:Nat):Bool:=match Nat.ble (rX*bytes) 140737488355328 with | true=>Nat.ble rX 140737488355328 | false=>false
theorem PF{rX bytes:Nat}(h:rX*bytes<=140737488355328/\rX<=140737488355328):EP rX bytes=true:=by
 unfold EP;rw [jT h.1];exact jT h.2
theorem Xn{rX bytes:Nat}(h:EP rX bytes=true):rX*bytes<=140737488355328/\rX<=140737488355328:=by
 unfold EP at h;cases hb:Nat.ble (rX*bytes) 140737488355328 with
 | false=>rw [hb]at h;cases h
 | true=>rw [hb]at h;exact⟨aW hb,aW h⟩
def gH:Value->Bool
 | .agg _ | .tuple _=>false
 | _=>true
def rD{α:Type}(f:α->Bool)(l:List α):Bool:=fS (β:=Bool) true (λa _ ih=>dL (f a) ih false) l
def jV:Value->Bool
 | .agg cs=>cs.toList.all bE
 | v=>bE v
def tC(A:aO)(x:Operand)(k:Value->Bool):Bool:=
 match x with
 | .tmp t=>SC A.tmps t k
 | .const v=>match jV v with | true=>k v | false=>false
 | .global g=>match Nat.blt g A.g with | true=>k (.pointer (some ⟨g,0,none⟩)) | false=>false
 | .func f=>k (.func (.func f) #[] #[])
def PG(A:aO)(xs:List Operand)(k:List Value->Bool):Bool:=
 fS (β:=(List Value->Bool)->Bool) (λk=>k []) (λx _ ih k=>tC A x λv=>ih λvs=>k (v::vs)) xs k
def mA(A:aO)(d:Option Tmp)(v:Value)(k:aO->Bool):Bool:=
 match d with
 | some d=>sB v A.tmps d λts=>k ⟨ts,A.marks,A.g⟩
 | none=>k A
def uH(S:St)(o:iP)(k:Nat->St->Bool):Bool:=
 SY o (Nat.succ S.n) S.h S.n λh=>cG (Nat.succ S.n) λn=>k S.n ⟨h,n⟩
def rE(S:St)(i:Nat)(o:iP)(k:St->Bool):Bool:=SY o (Nat.succ i) S.h i λh=>k ⟨h,S.n⟩
def wJ(S:St)(i:Nat)(k:List Value->TypeId->CK->Bool):Bool:=
 oV S.h i λo=>match o with | .cells vs e c=>k vs e c | _=>false
def EQ(S:St)(i off n:Nat)(k:List Value->Bool):Bool:=wJ S i λvs _ _=>IM off vs λl=>PE n l k
def Pc(l:List Nat)(h:Tr iP)(k:Tr iP->Bool):Bool:=
 fS (β:=Tr iP->(Tr iP->Bool)->Bool) (λh k=>k h) (λi _ ih h k=>SY .dead (Nat.succ i) h i λh=>ih h k) l h k
def Hg:Int->Int->Bool
 | .ofNat a,.ofNat b=>Nat.beq a b
 | .negSucc a,.negSucc b=>Nat.beq a b
 | _,_=>false
def BN:IntKind->IntKind->Bool
 | .i8,.i8 | .i16,.i16 | .i32,.i32 | .i64,.i64 | .u8,.u8 | .u16,.u16 | .u32,.u32 | .u64,.u64=>true
 | _,_=>false
def Bn(new:List Value):List Value->Bool:=
 fS (β:=List Value->Bool) (λ_=>true) (λa _ ih l=>Jf l false λb t=>match a,b with
  | .int j x,.int k y=>match BN j k with
   | true=>match Hg x y with | true=>ih t | false=>false
   | false=>false
  | _,_=>false) new
def pW(S:St)(i off:Nat)(new:List Value)(k:St->Bool):Bool:=
 wJ S i λvs e c=>
  match c with
  | .exact=>rF off new vs λvs=>rE S i (.cells vs e .exact) k
  | .grown olds=>IM off vs λl=>match Bn new l with
   | true=>k S
   | false=>rF off new vs λvs=>Pc olds S.h λh=>SY (.cells vs e (.grown [])) (Nat.succ i) h i λh=>k ⟨h,S.n⟩
  | .rs=>IM off vs λl=>match Bn new l with | true=>k S | false=>false
  | _=>false
def Ns:Int->Int->Bool
 | .ofNat a,.ofNat b=>Nat.blt a b
 | .ofNat _,.negSucc _=>false
 | .negSucc _,.ofNat _=>true
 | .negSucc a,.negSucc b=>Nat.blt b a
def lC(k:IntKind)(n:Int):Int:=
 match k,n with
 | .i64,.ofNat m=>match Nat.blt m 9223372036854775808 with | true=> .ofNat m | false=>k.wrap n
 | .i64,.negSucc m=>match Nat.blt m 9223372036854775808 with | true=> .negSucc m | false=>k.wrap n
 | .u64,.ofNat m=>match Nat.blt m 18446744073709551616 with | true=> .ofNat m | false=>k.wrap n
 | .u8,.ofNat m=>match Nat.blt m 256 with | true=> .ofNat m | false=>k.wrap n
 | k,n=>k.wrap n
def KD(k:IntKind)(n:Int)(K:Value->Bool):Bool:=zK (lC k n) λn=>K (.int k n)
def nX(b:Bool)(K:Value->Bool):Bool:=UX b λb=>K (.bool b)
def MM(op:BinOp)(k:IntKind)(x y:Int)(K:Value->Bool):Bool:=
 match op with
 | .add=>KD k (Int.add x y) K
 | .sub=>KD k (Int.sub x y) K
 | .mul=>KD k (Int.mul x y) K
 | .quo=>match Hg y 0 with | true=>false | false=>KD k (Int.tdiv x y) K
 | .rem=>match Hg y 0 with | true=>false | false=>zK (Int.tmod x y) λn=>K (.int k n)
 | .and=>zK (k.wrap (BitVec.ofInt k.bits x &&& BitVec.ofInt k.bits y).toNat) λn=>K (.int k n)
 | .or=>zK (k.wrap (BitVec.ofInt k.bits x ||| BitVec.ofInt k.bits y).toNat) λn=>K (.int k n)
 | .xor=>zK (k.wrap (BitVec.ofInt k.bits x ^^^ BitVec.ofInt k.bits y).toNat) λn=>K (.int k n)
 | .andNot=>zK (k.wrap (BitVec.ofInt k.bits x &&& ~~~ BitVec.ofInt k.bits y).toNat) λn=>K (.int k n)
 | .eql=>nX (Hg x y) K
 | .neq=>nX (!Hg x y) K
 | .lss=>nX (Ns x y) K
 | .leq=>nX (!Ns y x) K
 | .gtr=>nX (Ns y x) K
 | .geq=>nX (!Ns x y) K
 | _=>false
def UY(op:BinOp)(k:IntKind)(x y:Int)(K:Value->Bool):Bool:=
 match Ns y 0 with
 | true=>false
 | false=>
  match op with
  | .shl=>KD k (x*2 ^ (min y.toNat k.bits)) K
  | .shr=>zK (x.fdiv (2 ^ (min y.toNat k.bits))) λn=>K (.int k n)
  | _=>false
def Gj(a b:List UInt8):Bool:=
 fS (β:=List UInt8->Bool) (λb=>match b with | []=>true | _=>false)
  (λx _ ih b=>match b with | []=>false | y::b=>match Nat.beq x.toNat y.toNat with | true=>ih b | false=>false) a b
def aEK(a b:List UInt8):Bool:=
 fS (β:=List UInt8->Bool) (λb=>match b with | []=>false | _=>true)
  (λx _ ih b=>match b with | []=>false | y::b=>match Nat.blt x.toNat y.toNat with | true=>true | false=>match Nat.beq x.toNat y.toNat with | true=>ih b | false=>false) a b
def Rx(op:BinOp)(a b:ByteArray)(K:Value->Bool):Bool:=
 match op with
 | .add=>CU a.data.toList λn=>CU b.data.toList λm=>match Nat.blt (n+m) 9223372036854775808 with
  | true=>zN a.data.toList b.data.toList λl=>K (.string ⟨⟨l⟩⟩)
  | false=>false
 | .eql=>nX (Gj a.data.toList b.data.toList) K
 | .neq=>nX (!Gj a.data.toList b.data.toList) K
 | .lss=>nX (aEK a.data.toList b.data.toList) K
 | .leq=>nX (aEK a.data.toList b.data.toList || Gj a.data.toList b.data.toList) K
 | .gtr=>nX (!(aEK a.data.toList b.data.toList || Gj a.data.toList b.data.toList)) K
 | .geq=>nX (!aEK a.data.toList b.data.toList) K
 | _=>false
section
variable(P:Program)
def uR(t:TypeId):Option Bool:=(P.underlying t).map λ| .struct _ | .array _ _=>true | _=>false
def bP(t:TypeId):Option Nat:=(P.info? t).map (·.size)
def tX(t:TypeId):Option (List Value):=((P.info? t).bind (·.zero)).map (·.cells.toList)
def KU(t:TypeId)(a:Value)(S:St)(K:VK):Bool:=
 match a with
 | .pointer (some ⟨i,o,none⟩)=>
  match uR P t with
  | some false=>wJ S i λvs _ _=>SZ vs o λv=>K v S
  | some true=>match bP P t with
   | some n=>EQ S i o n λl=>K (.agg ⟨l⟩) S
   | none=>false
  | none=>false
 | _=>false
def oW(v:Value)(k:List Value->Bool):Bool:=
 match v with
 | .agg cs=>match rD gH cs.toList with | true=>k cs.toList | false=>false
 | .tuple _=>false
 | v=>k [v]
def UZ(t:TypeId)(a x:Value)(S:St)(k:St->Bool):Bool:=
 match a with
 | .pointer (some ⟨i,o,none⟩)=>
  match bP P t with
  | some n=>oW x λcs=>CU cs λm=>match Nat.beq m n with
   | true=>pW S i o cs k
   | false=>false
  | none=>false
 | _=>false
def aEL(d:Nat)(x:Option Value)(k:Nat->Bool):Bool:=
 match x with
 | none=>k d
 | some (.int _ (.ofNat n))=>k n
 | _=>false
def MN(len cap:Nat)(lo hi mx:Option Value)(k:Nat->Nat->Nat->Bool):Bool:=
 aEL cap mx λm=>aEL len hi λh=>aEL 0 lo λl=>
  match Nat.ble l h,Nat.ble h m,Nat.ble m cap with
  | true,true,true=>k l h m
  | _,_,_=>false
def isSlice(t:TypeId):Option TypeId:=match P.underlying t with | some (.slice e)=>some e | _=>none
def sJ(t:TypeId)(x:Value)(lo hi mx:Option Value)(S:St)(K:Value->Bool):Bool:=
 match x with
 | .string s=>
  match P.underlying t,mx with
  | some .string,none=>CU s.data.toList λn=>MN n n lo hi none λl h _=>PE h s.data.toList λa=>IM l a λb=>K (.string ⟨⟨b⟩⟩)
  | _,_=>false
 | .slice none len cap=>
  match isSlice P t with
  | some elem=>match bP P elem with
   | some _=>MN len cap lo hi mx λl h m=>cG (h-l) λn=>cG (m-l) λc=>K (.slice none n c)
   | none=>false
  | none=>false
 | .slice (some ⟨i,o,sp⟩) len cap=>
  match isSlice P t with
  | some elem=>match bP P elem with
   | some size=>MN len cap lo hi mx λl h m=>cG (h-l) λn=>cG (m-l) λc=>cG (o+l*size) λo'=>
    match sp,mx with
    | none,_=>match Nat.beq m l with | true=>K (.slice (some ⟨i,o,none⟩) n c) | false=>K (.slice (some ⟨i,o',none⟩) n c)
    | some 0,some _=>match Nat.beq m l with | true=>K (.slice (some ⟨i,o,none⟩) n c) | false=>K (.slice (some ⟨i,o',none⟩) n c)
    | some 0,none=>match Nat.beq m l with
     | true=>K (.slice (some ⟨i,0,some 1⟩) 0 0)
     | false=>wJ S i λ_ e ck=>match ck,bP P e with
      | .exact,_=>false
      | _,some q=>match Nat.beq q size with | true=>K (.slice (some ⟨i,o',some 0⟩) n c) | false=>false
      | _,none=>false
    | some _,_=>K (.slice (some ⟨i,0,some 1⟩) 0 0)
   | none=>false
  | none=>false
 | .pointer (some ⟨i,o,none⟩)=>
  match P.underlying t with
  | some (.array len elem)=>match bP P elem with
   | some size=>MN len len lo hi mx λl h m=>cG (h-l) λn=>cG (m-l) λc=>cG (o+l*size) λo'=>
    match Nat.beq m l with | true=>K (.slice (some ⟨i,o,none⟩) n c) | false=>K (.slice (some ⟨i,o',none⟩) n c)
   | none=>false
  | _=>false
 | _=>false
def sK(t:TypeId)(x ix:Value)(K:Value->Bool):Bool:=
 match ix with
 | .int _ (.ofNat i)=>
  match x with
  | .slice (some ⟨b,o,sp⟩) len _=>
   match sp with
   | some (_+1)=>false
   | _=>match isSlice P t with
    | some elem=>match bP P elem,Nat.blt i len with
     | some size,true=>cG (o+i*size) λo=>K (.pointer (some ⟨b,o,none⟩))
     | _,_=>false
    | none=>false
  | .pointer (some ⟨b,o,none⟩)=>
   match P.underlying t with
   | some (.array len elem)=>match bP P elem,Nat.blt i len with
    | some size,true=>cG (o+i*size) λo=>K (.pointer (some ⟨b,o,none⟩))
    | _,_=>false
   | _=>false
  | _=>false
 | _=>false
def zO(s:TypeId)(f:Nat):Option Field:=match P.underlying s with | some (.struct fs)=>fs[f]? | _=>none
def BO(s:TypeId)(x:Value)(f:Nat)(K:Value->Bool):Bool:=
 match x with
 | .pointer (some ⟨b,o,none⟩)=>
  match zO P s f with
  | some fd=>match bP P fd.type with
   | some (_+1)=>cG (o+fd.offset) λo=>K (.pointer (some ⟨b,o,none⟩))
   | _=>false
  | none=>false
 | _=>false
def Pd(t:TypeId)(cs:List Value)(off:Nat)(K:Value->Bool):Bool:=
 match uR P t with
 | some false=>SZ cs off K
 | some true=>match bP P t with
  | some n=>IM off cs λl=>PE n l λl=>K (.agg ⟨l⟩)
  | none=>false
 | none=>false
def PH(t:TypeId)(x:Value)(f:Nat)(K:Value->Bool):Bool:=
 match x with
 | .agg cs=>match zO P t f with
  | some fd=>Pd P fd.type cs.toList fd.offset K
  | none=>false
 | _=>false
def Bo(t:TypeId)(x ix:Value)(K:Value->Bool):Bool:=
 match ix with
 | .int _ (.ofNat i)=>
  match x with
  | .agg cs=>match P.underlying t with
   | some (.array len elem)=>match bP P elem,Nat.blt i len with
    | some size,true=>Pd P elem cs.toList (i*size) K
    | _,_=>false
   | _=>false
  | .string s=>match P.underlying t with
   | some .string=>SZ s.data.toList i λb=>cG b.toNat λn=>K (.int .u8 (.ofNat n))
   | _=>false
  | _=>false
 | _=>false
def TS(place:Nat->Option (Nat×Nat))(parts:List (Nat×Value))(cells:List Value)(k:List Value->Bool):Bool:=
 fS (β:=List Value->Bool) (λcs=>k cs)
  (λp _ ih cs=>match place p.1 with
   | some (off,size)=>oW p.2 λnew=>CU new λm=>match Nat.beq m size with
    | true=>rF off new cs ih
    | false=>false
   | none=>false) parts cells
def DY(A:aO)(parts:List (Nat×Operand))(k:List (Nat×Value)->Bool):Bool:=
 fS (β:=(List (Nat×Value)->Bool)->Bool) (λk=>k []) (λp _ ih k=>tC A p.2 λv=>ih λl=>k ((p.1,v)::l)) parts k
def placesOf(fields:List Field):Option (List (Nat×Nat)):=fields.mapM λf=>(bP P f.type).map λs=>(f.offset,s)
def Jg(A:aO)(t:TypeId)(parts:List (Nat×Operand))(K:Value->Bool):Bool:=
 match tX P t,P.underlying t with
 | some zero,some (.struct fields)=>match placesOf P fields.toList with
  | some pl=>match rD bE zero with
   | true=>DY A parts λps=>TS (pl[·]?) ps zero λcs=>K (.agg ⟨cs⟩)
   | false=>false
  | none=>false
 | some zero,some (.array _ elem)=>match bP P elem with
  | some size=>match rD bE zero with
   | true=>DY A parts λps=>TS (λi=>some (i*size,size)) ps zero λcs=>K (.agg ⟨cs⟩)
   | false=>false
  | none=>false
 | _,_=>false
def yJ(A:aO)(t:TypeId)(len:Nat)(parts:List (Nat×Operand))(S:St)(K:VK):Bool:=
 match isSlice P t with
 | some elem=>match bP P elem,tX P elem with
  | some (size+1),some zero=>match Nat.ble (len*(size+1)) 16777216,Nat.beq zero.length (size+1)with
   | true,true=>match rD bE zero with
    | true=>Xm zero len λcs=>DY A parts λps=>TS (λi=>some (i*(size+1),size+1)) ps cs λcs=>
     uH S (.cells cs elem .exact) λi S=>K (.slice (some ⟨i,0,none⟩) len len) S
    | false=>false
   | _,_=>false
  | _,_=>false
 | none=>false
def PI(t:TypeId)(S:St)(K:VK):Bool:=
 match tX P t with
 | some zero=>match rD bE zero with
  | true=>aJG zero λzero=>uH S (.cells zero t .exact) λi S=>K (.pointer (some ⟨i,0,none⟩)) S
  | false=>false
 | none=>false
def Xo(t:TypeId)(v:Value)(S:St)(K:VK):Bool:=
 oW v λcs=>uH S (.cells cs t .exact) λi S=>K (.pointer (some ⟨i,0,none⟩)) S
def uS(t:TypeId)(len cap:Value)(S:St)(K:VK):Bool:=
 match len,cap with
 | .int _ (.ofNat l),.int _ (.ofNat c)=>
  match isSlice P t with
  | some elem=>match P.info? elem,tX P elem with
   | some info,some zero=>match Nat.ble l c,Nat.ble (info.bytes*c) 1099511627776,Nat.ble c 1099511627776,Nat.beq zero.length info.size,info.size with
    | true,true,true,true,_+1=>match rD bE zero with
     | true=>match Nat.ble c 65536 with
      | true=>Xm zero c λcs=>uH S (.cells cs elem .exact) λi S=>K (.slice (some ⟨i,0,none⟩) l c) S
      | false=>uH S .dead λi S=>K (.slice (some ⟨i,0,none⟩) l c) S
     | false=>false
    | _,_,_,_,_=>false
   | _,_=>false
  | none=>false
 | _,_=>false
def qV(t:TypeId):Bool:=match P.underlying t with | some (.int _) | some .string | some .bool=>true | _=>false
def tY(t:TypeId)(a b:Value)(k:Bool->Bool):Bool:=
 match P.underlying t with
 | some (.int _)=>match a,b with
  | .int j x,.int l y=>match BN j l with | true=>UX (Hg x y) k | false=>false
  | _,_=>false
 | some .string=>match a,b with
  | .string x,.string y=>UX (Gj x.data.toList y.data.toList) k
  | _,_=>false
 | some .bool=>match a,b with
  | .bool x,.bool y=>UX (x==y) k
  | _,_=>false
 | _=>false
def KW(fs:List Field)(a b:List Value)(k:Bool->Bool):Bool:=
 fS (β:=List Value->List Value->Bool) (λ_ _=>k true)
  (λf _ ih a b=>Jf a false λx a=>Jf b false λy b=>tY P f.type x y λe=>match e with | true=>ih a b | false=>k false) fs a b
def uT:Nat->List Field->Bool
 | _,[]=>true
 | i,f::fs=>f.name != "_" &&f.offset==i&&qV P f.type&&uT (i+1) fs
def MO(t:TypeId):Option (List Field):=
 match P.underlying t with
 | some (.struct fs)=>if uT P 0 fs.toList&& !P.stoodInHeld t&& !P.eqGuardType P.depth t then some fs.toList else none
 | _=>none
def oX(t:TypeId)(a b:Value)(k:Bool->Bool):Bool:=
 match a,b with
 | .agg xs,.agg ys=>match MO P t with
  | some fs=>KW P fs xs.toList ys.toList k
  | none=>false
 | .pointer (some _),.pointer none | .pointer none,.pointer (some _)=>match P.underlying t with | some (.pointer _)=>k false | _=>false
 | .pointer none,.pointer none=>match P.underlying t with | some (.pointer _)=>k true | _=>false
 | .slice (some _) _ _,.slice none _ _ | .slice none _ _,.slice (some _) _ _=>match P.underlying t with | some (.slice _)=>k false | _=>false
 | .slice none _ _,.slice none _ _=>match P.underlying t with | some (.slice _)=>k true | _=>false
 | .map (some _),.map none | .map none,.map (some _)=>match P.underlying t with | some (.map _ _)=>k false | _=>false
 | .map none,.map none=>match P.underlying t with | some (.map _ _)=>k true | _=>false
 | .func _ _ _,.nilFunc | .nilFunc,.func _ _ _=>match P.underlying t with | some (.func _ _ _)=>k false | _=>false
 | .nilFunc,.nilFunc=>match P.underlying t with | some (.func _ _ _)=>k true | _=>false
 | .iface _ _,.nilIface | .nilIface,.iface _ _=>match P.underlying t with | some (.interface _)=>k false | _=>false
 | .bool x,.bool y=>match P.underlying t with | some .bool=>UX (x==y) k | _=>false
 | _,_=>false
def VB(op:BinOp)(t:TypeId)(a b:Value)(K:Value->Bool):Bool:=
 match a,b with
 | .int k x,.int k' y=>match op with
  | .shl | .shr=>UY op k x y K
  | _=>match BN k k' with | true=>MM op k x y K | false=>false
 | .string x,.string y=>Rx op x y K
 | a,b=>match op with
  | .eql=>oX P t a b λe=>nX e K
  | .neq=>oX P t a b λe=>nX (!e) K
  | _=>false
def unK(op:UnOp)(a:Value)(K:Value->Bool):Bool:=
 match op,a with
 | .neg,.int k n=>KD k (Int.sub 0 n) K
 | .xor,.int k n=>zK (k.wrap (BitVec.ofInt k.bits (if k.signed then-1 else k.max) ^^^ BitVec.ofInt k.bits n).toNat) λn=>K (.int k n)
 | .not,.bool b=>nX (!b) K
 | _,_=>false
def aGs(l:List UInt8)(k:List Value->Bool):Bool:=
 fS (β:=(List Value->Bool)->Bool) (λk=>k []) (λb _ ih k=>cG b.toNat λn=>ih λt=>k (.int .u8 (.ofNat n)::t)) l k
def aBM(l:List Value)(k:List UInt8->Bool):Bool:=
 fS (β:=(List UInt8->Bool)->Bool) (λk=>k []) (λv _ ih k=>match v with | .int .u8 (.ofNat n)=>ih λt=>k (UInt8.ofNat n::t) | _=>false) l k
def Ea(src dst:TypeId)(x:Value)(S:St)(K:VK):Bool:=
 match x with
 | .int _ n=>match P.underlying src,P.underlying dst with
  | some _,some (.int k)=>KD k n λv=>K v S
  | _,_=>false
 | .string s=>match P.underlying src,P.underlying dst with
  | some .string,some .string=>K (.string s) S
  | some .string,some (.slice e)=>match P.underlying e,bP P e with
   | some (.int .u8),some 1=>aGs s.data.toList λl=>CU l λn=>uH S (.cells l e (.grown [])) λi S=>K (.slice (some ⟨i,0,some 0⟩) n n) S
   | _,_=>false
  | _,_=>false
 | .slice none _ _=>match P.underlying src,P.underlying dst with
  | some (.slice e),some .string=>match P.underlying e with
   | some (.int .u8)=>K (.string ⟨⟨[]⟩⟩) S
   | _=>false
  | _,_=>false
 | .slice (some ⟨i,o,sp⟩) len _=>match P.underlying src,P.underlying dst,sp with
  | _,_,some (_+1)=>false
  | some (.slice e),some .string,_=>match P.underlying e with
   | some (.int .u8)=>EQ S i o len λl=>aBM l λl=>K (.string ⟨⟨l⟩⟩) S
   | _=>false
  | _,_,_=>false
 | _=>false
def Ry(S:St)(m:Value)(k:Option Nat->List MapEntry->Nat->Bool):Bool:=
 match m with
 | .map none=>k none [] 0
 | .map (some r)=>oV S.h r λo=>match o with | .map es c=>k (some r) es c | _=>false
 | _=>false
def DZ(t:TypeId)(a b:Value)(k:Bool->Bool):Bool:=
 match a,b with
 | .agg _,.agg _=>oX P t a b k
 | a,b=>tY P t a b k
def Eb(t:TypeId)(key:Value)(es:List MapEntry)(k:Option (Nat×MapEntry)->Bool):Bool:=
 fS (β:=Nat->Bool) (λ_=>k none)
  (λe _ ih i=>DZ P t key e.key λb=>match b with | true=>k (some (i,e)) | false=>cG (Nat.succ i) ih) es 0
def NV(t:TypeId)(key:Value):Bool:=
 match jV key with
 | true=>match qV P t with
  | true=>true
  | false=>match MO P t,key with
   | some fs,.agg cs=>Nat.ble fs.length cs.toList.length
   | _,_=>false
 | false=>false
def EA(t:TypeId):Option (TypeId×TypeId):=match P.underlying t with | some (.map k e)=>some (k,e) | _=>none
def zeroV(t:TypeId):Option Value:=(P.info? t).bind (·.zero)
def SD(t:TypeId)(x ix:Value)(ok:Bool)(S:St)(K:VK):Bool:=
 match EA P t with
 | some (kt,et)=>match NV P kt ix,zeroV P et with
  | true,some zero=>Ry S x λ_ es _=>Eb P kt ix es λr=>
   match r with
   | some (_,e)=>match ok with | true=>K (.tuple ⟨[e.val,.bool true]⟩) S | false=>K e.val S
   | none=>match jV zero with
    | true=>match ok with | true=>K (.tuple ⟨[zero,.bool false]⟩) S | false=>K zero S
    | false=>false
  | _,_=>false
 | none=>false
def BP(t:TypeId)(m key x:Value)(S:St)(k:St->Bool):Bool:=
 match EA P t with
 | some (kt,_)=>match NV P kt key with
  | true=>Ry S m λr es c=>match r with
   | some r=>Eb P kt key es λf=>
    match f with
    | some (i,e)=>match Instr.sameBits 10000 e.key key with
     | true=>aDu {e with val:=x} es i λes=>rE S r (.map es c) k
     | false=>false
    | none=>zN es [{key:=key,val:=x,born:=c}] λes=>cG (Nat.succ c) λc=>rE S r (.map es c) k
   | none=>false
  | false=>false
 | none=>false
def Bp(t:TypeId)(m key:Value)(S:St)(K:VK):Bool:=
 match EA P t with
 | some (kt,et)=>match NV P kt key,zeroV P et with
  | true,some zero=>Ry S m λr es c=>match r with
   | some r=>Eb P kt key es λf=>
    match f with
    | some (_,e)=>match Instr.sameBits 10000 e.key key with
     | true=>K (.tuple ⟨[e.val,.int .i64 (.ofNat e.born)]⟩) S
     | false=>false
    | none=>match jV zero with
     | true=>zN es [{key:=key,val:=zero,born:=c}] λes=>cG (Nat.succ c) λc'=>rE S r (.map es c') λS=>K (.tuple ⟨[zero,.int .i64 (.ofNat c)]⟩) S
     | false=>false
   | none=>false
  | _,_=>false
 | none=>false
def Pe(n:Nat)(es:List MapEntry)(k:Nat->MapEntry->Bool):Bool:=
 fS (β:=Nat->Bool) (λ_=>false) (λe _ ih i=>match Nat.beq e.born n with | true=>k i e | false=>cG (Nat.succ i) ih) es 0
def PJ(m s x:Value)(S:St)(k:St->Bool):Bool:=
 match s with
 | .int _ (.ofNat n)=>Ry S m λr es c=>match r with
  | some r=>Pe n es λi e=>aDu {e with val:=x} es i λes=>rE S r (.map es c) k
  | none=>false
 | _=>false
def aGt{α:Type}(l:List α)(i:Nat)(k:List α->Bool):Bool:=
 fS (β:=Nat->(List α->Bool)->Bool) (λ_ k=>k []) (λa t ih i k=>oU i (k t) λp=>ih p λt'=>k (a::t')) l i k
def Rz(argTypes:List TypeId)(m key:Value)(S:St)(k:St->Bool):Bool:=
 match argTypes with
 | t::_=>match EA P t with
  | some (kt,_)=>match NV P kt key with
   | true=>Ry S m λr es c=>match r with
    | none=>k S
    | some r=>Eb P kt key es λf=>match f with
     | some (i,_)=>aGt es i λes=>rE S r (.map es c) k
     | none=>k S
   | false=>false
  | none=>false
 | []=>false
def aJH(n:Nat)(l:List Nat):Bool:=fS (β:=Bool) false (λm _ ih=>dL (Nat.beq m n) true ih) l
def Xp(seen:List Nat)(es:List MapEntry)(k:List MapEntry->Bool):Bool:=
 fS (β:=(List MapEntry->Bool)->Bool) (λk=>k []) (λe _ ih k=>dL (aJH e.born seen) (ih k) (ih λt=>k (e::t))) es k
def XJ(t:TypeId)(x:Value)(S:St)(K:VK):Bool:=
 match EA P t with
 | some _=>match x with
  | .map none=>uH S (.iter none 0 [] 0) λi S=>K (.pointer (some ⟨i,0,none⟩)) S
  | .map (some r)=>oV S.h r λo=>match o with
   | .map _ c=>uH S (.iter (some r) c [] c) λi S=>K (.pointer (some ⟨i,0,none⟩)) S
   | _=>false
  | _=>false
 | none=>false
def aDx(it:Value)(S:St)(K:VK):Bool:=
 match it with
 | .pointer (some ⟨i,0,none⟩)=>oV S.h i λo=>match o with
  | .iter none _ _ _=>K (.tuple ⟨[.bool false]⟩) S
  | .iter (some r) since seen last=>oV S.h r λo=>match o with
   | .map es c=>match rD (λe=>Nat.blt e.born since) es,Nat.ble since last with
    | true,true=>Xp seen es λl=>match l with
     | []=>K (.tuple ⟨[.bool false]⟩) S
     | e::t=>rD (λe=>zN seen [e.born] λseen=>rE S i (.iter (some r) since seen c) λS=>K (.tuple ⟨[.bool true,e.key,e.val]⟩) S) (e::t)
    | _,_=>false
   | _=>false
  | _=>false
 | _=>false
def Xq(l:List Nat)(k:Nat->Bool):Bool:=fS (β:=Bool) false (λn t ih=>match t with | []=>k n | _=>ih) l
def Sc(it:Value)(S:St)(K:VK):Bool:=
 match it with
 | .pointer (some ⟨i,0,none⟩)=>oV S.h i λo=>match o with
  | .iter (some r) _ seen last=>oV S.h r λo=>match o with
   | .map es c=>match Nat.beq c last with
    | true=>Xq seen λb=>Pe b es λ_ e=>K (.tuple ⟨[e.key,e.val]⟩) S
    | false=>false
   | _=>false
  | _=>false
 | _=>false
def TT(big:Bool)(l:List Value)(j:IntKind)(x:Int)(K:Value->Bool):Bool:=
 fS (β:=Int->Bool) (λx=>K (.int j x)) (λv _ ih x=>match v with
  | .int _ y=>dL (dL big (Ns x y) (Ns y x)) (ih y) (ih x)
  | _=>false) l x
def GJ(S:St)(size n:Nat)(x:Value)(k:List Value->Bool):Bool:=
 match x with
 | .slice none _ _=>match n with | 0=>k [] | _=>false
 | .slice (some ⟨i,o,sp⟩) _ _=>match n with
  | 0=>k []
  | n+1=>match sp with
   | some (_+1)=>false
   | _=>EQ S i o ((n+1)*size) k
 | .string s=>match size with
  | 1=>PE n s.data.toList λl=>aGs l k
  | _=>false
 | _=>false
def KX(x:Value)(k:Nat->Bool):Bool:=
 match x with
 | .slice _ n _=>k n
 | .string s=>CU s.data.toList k
 | _=>false
def NW(elem:TypeId)(old new:List Value)(n:Nat)(from_:Option (Nat×List Value×TypeId×List Nat))(S:St)(K:VK):Bool:=
 zN old new λcs=>
  match from_ with
  | none=>uH S (.cells cs elem (.grown [])) λi S=>K (.slice (some ⟨i,0,some 0⟩) n n) S
  | some (b,vs,e,olds)=>rE S b (.cells vs e .sA) λS=>uH S (.cells cs elem (.grown (b::olds))) λi S=>K (.slice (some ⟨i,0,some 0⟩) n n) S
def Jh:Option TypeDesc->Bool
 | some (.slice _) | some .string=>true
 | _=>false
def Ji:Option Nat->Bool
 | none | some 0=>true
 | _=>false
def PK(size:Nat)(new:List Value)(base:Option Addr)(sLen sCap rX:Nat)(S:St)(K:VK):Bool:=
 match base with
 | some ⟨b,o,sp⟩=>match Ji sp,rD gH new with
  | true,true=>cG (o+sLen*size) λat_=>pW S b at_ new λS=>K (.slice (some ⟨b,o,sp⟩) rX sCap) S
  | _,_=>false
 | none=>false
def XK(elem:TypeId)(size:Nat)(new:List Value)(base:Option Addr)(sLen rX:Nat)(S:St)(K:VK):Bool:=
 match base with
 | none=>match sLen with | 0=>NW elem [] new rX none S K | _=>false
 | some ⟨b,o,none⟩=>EQ S b o (sLen*size) λold=>NW elem old new rX none S K
 | some ⟨b,o,some 0⟩=>wJ S b λvs e c=>CU vs λm=>match Nat.beq (o+sLen*size) m,c,bP P e with
  | true,.grown olds,some q=>match Nat.beq q size,rD gH new,Nat.beq e elem with
   | true,true,true=>EQ S b o (sLen*size) λold=>NW elem old new rX (some (b,vs,e,olds)) S K
   | _,_,_=>false
  | _,_,_=>false
 | _=>false
def pF(argTypes:List TypeId)(s x:Value)(S:St)(K:VK):Bool:=
 match argTypes with
 | sT::xT::_=>
  match isSlice P sT,Jh (P.underlying xT)with
  | some elem,true=>match P.info? elem with
   | some info=>match info.size,info.zero,s with
    | size+1,some z,.slice base sLen sCap=>match Nat.beq z.cells.size (size+1)with
     | true=>KX x λn=>
      match n with
      | 0=>match Nat.ble sLen sCap with | true=>K (.slice base sLen sCap) S | false=>false
      | n'+1=>GJ S (size+1) (n'+1) x λnew=>cG (sLen+(n'+1)) λrX=>
       match EP rX info.bytes with
       | true=>match Nat.ble rX sCap with
        | true=>PK (size+1) new base sLen sCap rX S K
        | false=>XK P elem (size+1) new base sLen rX S K
       | false=>false
     | false=>false
    | _,_,_=>false
   | none=>false
  | _,_=>false
 | _=>false
def Pf(argTypes:List TypeId)(dst src:Value)(S:St)(K:VK):Bool:=
 match argTypes with
 | dT::_=>match isSlice P dT with
  | some elem=>match bP P elem,dst with
   | some (size+1),.slice base dLen _=>KX src λm=>cG (Nat.min m dLen) λn=>
    match n with
    | 0=>K (.int .i64 (.ofNat 0)) S
    | n'+1=>GJ S (size+1) (n'+1) src λcs=>match base with
     | some ⟨i,o,sp⟩=>match Ji sp,rD gH cs with
      | true,true=>pW S i o cs λS=>K (.int .i64 (.ofNat (n'+1))) S
      | _,_=>false
     | none=>false
   | _,_=>false
  | none=>false
 | []=>false
def nY(b:Builtin)(argTypes:List TypeId)(args:List Value)(S:St)(K:VK):Bool:=
 match b,args with
 | .len,[x]=>match argTypes with
  | t::_=>match x with
   | .slice _ n _=>match isSlice P t with | some _=>K (.int .i64 (.ofNat n)) S | none=>false
   | .string s=>match P.underlying t with | some .string=>CU s.data.toList λn=>K (.int .i64 (.ofNat n)) S | _=>false
   | .map _=>match EA P t with | some _=>Ry S x λ_ es _=>CU es λn=>K (.int .i64 (.ofNat n)) S | none=>false
   | .agg _=>match P.underlying t with | some (.array n _)=>K (.int .i64 (.ofNat n)) S | _=>false
   | _=>false
  | []=>false
 | .append,[s,x]=>pF P argTypes s x S K
 | .copy,[d,s]=>Pf P argTypes d s S K
 | .delete,[m,k]=>Rz P argTypes m k S λS=>K (.tuple #[]) S
 | .min,.int j x::l=>TT false l j x λv=>K v S
 | .max,.int j x::l=>TT true l j x λv=>K v S
 | .cap,[x]=>match argTypes with
  | t::_=>match isSlice P t,x with
   | some _,.slice none _ c=>K (.int .i64 (.ofNat c)) S
   | some _,.slice (some ⟨_,_,none⟩) _ c=>K (.int .i64 (.ofNat c)) S
   | _,_=>false
  | []=>false
 | .clear,[.slice base n _]=>match argTypes with
  | t::_=>match isSlice P t with
   | some elem=>match bP P elem,tX P elem with
    | some size,some zero=>match base,n with
     | none,_=>K (.tuple #[]) S
     | some _,0=>K (.tuple #[]) S
     | some ⟨i,o,sp⟩,n+1=>match Ji sp,Nat.beq zero.length size,rD bE zero,size with
      | true,true,true,_+1=>Xm zero (n+1) λcs=>pW S i o cs λS=>K (.tuple #[]) S
      | _,_,_,_=>false
    | _,_=>false
   | none=>false
  | []=>false
 | _,_=>false
end
structure Env where
 P:Program
 ov:FuncId->Option (List Value->St->VK->Bool)
 call:aDw
 round:Nat->List Value->St->VK->Bool
 most:Nat
def GK(P:Program)(t:TypeId)(name:String):Option FuncId:=match P.info? t,P.underlying t with
 | some info,some d=>match info.methods.find? (·.name==name)with
  | some m=>match m.path.toList,m.func with
   | [],some (g,pr)=>match d,pr with
    | .pointer _,true=>some g
    | .pointer _,false=>none
    | _,false=>some g
    | _,true=>none
   | _,_=>none
  | none=>none
 | _,_=>none
def mO(E:Env)(A:aO)(c:Call)(S:St)(K:VK):Bool:=
 PG A c.args.toList λargs=>
  match c.callee with
  | .builtin b=>nY E.P b c.argTypes.toList args S K
  | .value f=>tC A f λf=>match f with
   | .func (.func g) first captured=>zN first.toList args λl=>zN l captured.toList λl=>E.call g l S K
   | .func (.yield l) first captured=>match first.toList,captured.toList with
    | [],[]=>E.round l args S K
    | _,_=>false
   | _=>false
  | .invoke r m=>tC A r λv=>match v with
   | .iface t x=>match GK E.P t m with
    | some g=>E.call g (x::args) S K
    | none=>false
   | _=>false
def VC(A:aO)(x:Option Operand)(k:Option Value->Bool):Bool:=
 match x with
 | none=>k none
 | some x=>tC A x λv=>k (some v)
def wW(E:Env)(o:Oper)(A:aO)(S:St)(K:VK):Bool:=
 match o.op with
 | .move x | .assign x=>tC A x λv=>K v S
 | .pick c a b=>tC A c λc=>tC A a λa=>tC A b λb=>match c with
  | .bool true=>K a S
  | .bool false=>K b S
  | _=>false
 | .alloc t=>PI E.P t S K
 | .box t x=>tC A x λv=>Xo t v S K
 | .build t ps=>Jg E.P A t ps.toList λv=>K v S
 | .buildSlice t n ps=>yJ E.P A t n ps.toList S K
 | .load t a=>tC A a λa=>KU E.P t a S K
 | .store t a x=>tC A a λa=>tC A x λx=>UZ E.P t a x S λS=>K undef S
 | .nilCheck x=>tC A x λv=>match v with
  | .pointer (some a)=>K (.pointer (some a)) S
  | .func (.func f) a b=>K (.func (.func f) a b) S
  | .func (.yield f) a b=>K (.func (.yield f) a b) S
  | .func (.method s) ⟨[.iface t w]⟩ ⟨[]⟩=>match GK E.P t s with
   | some _=>K (.func (.method s) ⟨[.iface t w]⟩ ⟨[]⟩) S
   | none=>false
  | .iface t w=>K (.iface t w) S
  | _=>false
 | .binOp op t x y _=>tC A x λa=>tC A y λb=>VB E.P op t a b λv=>K v S
 | .unOp op _ x=>tC A x λa=>unK op a λv=>K v S
 | .convert s d x=>tC A x λa=>Ea E.P s d a S K
 | .makeInterface t x=>tC A x λv=>match E.P.underlying t with
  | some (.interface _)=>false
  | some _=>K (.iface t v) S
  | none=>false
 | .makeFunc fn first cap=>match fn with
  | .func f=>PG A first.toList λa=>PG A cap.toList λb=>K (.func (.func f) ⟨a⟩ ⟨b⟩) S
  | .method s=>match first.toList,cap.toList with
   | [x],[]=>tC A x λv=>K (.func (.method s) ⟨[v]⟩ ⟨[]⟩) S
   | _,_=>false
  | _=>false
 | .makeMap _ none=>uH S (.map [] 0) λi S=>K (.map (some i)) S
 | .makeMap t (some r)=>tC A r λr=>match r,EA E.P t with
  | .int _ _,some _=>uH S (.map [] 0) λi S=>K (.map (some i)) S
  | _,_=>false
 | .range t x=>tC A x λx=>XJ E.P t x S K
 | .next it s=>tC A it λit=>match s with | true=>false | false=>aDx it S K
 | .entry it=>tC A it λit=>Sc it S K
 | .typeAssert x _ as ok=>tC A x λv=>match v,E.P.underlying as with
  | .iface _ _,some (.interface _)=>false
  | .iface t w,some _=>match Nat.beq t as,ok with
   | true,true=>K (.tuple ⟨[w,.bool true]⟩) S
   | true,false=>K w S
   | false,_=>false
  | _,_=>false
 | .makeSlice t l c=>tC A l λl=>tC A c λc=>uS E.P t l c S K
 | .slice t x lo hi mx=>match mx,hi with
  | some _,none=>false
  | _,_=>tC A x λx=>VC A lo λlo=>VC A hi λhi=>VC A mx λmx=>sJ E.P t x lo hi mx S λv=>K v S
 | .fieldAddr s x f=>tC A x λx=>BO E.P s x f λv=>K v S
 | .field t x f=>tC A x λx=>PH E.P t x f λv=>K v S
 | .indexAddr t x ix=>tC A x λx=>tC A ix λix=>sK E.P t x ix λv=>K v S
 | .index t x ix=>tC A x λx=>tC A ix λix=>Bo E.P t x ix λv=>K v S
 | .lookup t x ix ok=>tC A x λx=>tC A ix λix=>SD E.P t x ix ok S K
 | .mapUpdate t m k x | .insert t m k x=>tC A m λm=>tC A k λk=>tC A x λx=>BP E.P t m k x S λS=>K undef S
 | .mapEntry t m k=>tC A m λm=>tC A k λk=>Bp E.P t m k S K
 | .entryStore _ m s x=>tC A m λm=>tC A s λs=>tC A x λx=>PJ m s x S λS=>K undef S
 | .extract t i=>tC A t λv=>match v with
  | .tuple vs=>SZ vs.toList i λv=>K v S
  | _=>false
 | .call c=>mO E A c S K
 | _=>false
def zP(ops:Array Oper)(o:Oper)(A:aO)(k:Bool->Bool):Bool:=
 match o.guard with
 | none=>k true
 | some (j,want)=>match ops[j]? with
  | some o'=>match o'.dst with
   | some d=>SC A.tmps d λv=>match v with
    | .bool b=>match b,want with | true,true | false,false=>k true | _,_=>k false
    | _=>k false
   | none=>k false
  | none=>k false
def VD(E:Env)(ops:Array Oper)(o:Oper)(A:aO)(S:St)(k:aO->St->Bool):Bool:=
 zP ops o A λb=>dL b (wW E o A S λv S=>mA A o.dst v λA=>k A S) (mA A o.dst undef λA=>k A S)
def TA(E:Env)(ops:Array Oper)(l:List Oper)(A:aO)(S:St)(k:aO->St->Bool):Bool:=
 fS (β:=aO->St->Bool) (λA S=>k A S) (λo _ ih A S=>VD E ops o A S ih) l A S
abbrev VF:=wB->aO->St->Bool
def aDy(body:aO->St->VF->Bool)(most:Nat)(A:aO)(S:St)(K:VF):Bool:=
 ML (β:=aO->St->Bool) (λ_ _=>false) (λ_ ih A S=>body A S λe A S=>match e with | .normal=>ih A S | e=>K e A S) most A S
def VG(E:Env)(r:Option Nat)(f:Operand)(params:Array Tmp)(assign body:Code)(A:aO)(S:St)(K:VF):Bool:=
 tC A f λf=>match f with
  | .func (.func g) first captured=>
   let go (A:aO) (S:St):Bool:=uH S (.loop A.tmps params.toList assign body .ready none) λl S=>
    zN first.toList [.func (.yield l) #[] #[]] λas=>zN as captured.toList λas=>E.call g as S λ_ S=>
     oV S.h l λo=>match o with
      | .loop tm ps as bo st pe=>match st with
       | .busy=>false
       | _=>rE S l (.loop tm ps as bo .exhausted pe) λS=>match pe with
        | none=>K .normal A S
        | some .ret=>K .ret A S
        | some (.exit id)=>K (.exit id) A S
        | _=>false
      | _=>false
   match r with
   | some l=>oV S.h l λo=>match o with | .loop _ _ _ _ _ _=>go A S | _=>false
   | none=>uH S .defers λd S=>go ⟨A.tmps,d::A.marks,A.g⟩ S
  | _=>false
def uU(E:Env)(dr:Array Oper->aO->St->(aO->St->Bool)->Bool)(r:Option Nat)(c:Code):aO->St->VF->Bool:=
 aN8 (β:=aO->St->VF->Bool)
  (λA S K=>K .normal A S)
  (λops draw A S K=>dL draw (dr ops A S λA S=>K .normal A S) (TA E ops ops.toList A S λA S=>K .normal A S))
  (λha hb A S K=>ha A S λe A S=>match e with | .normal=>hb A S K | e=>K e A S)
  (λc ha hb A S K=>tC A c λv=>match v with | .bool b=>dL b (ha A S K) (hb A S K) | _=>false)
  (λid h A S K=>h A S λe A S=>match e with
   | .exit i=>match Nat.beq i id with | true=>K .normal A S | false=>K (.exit i) A S
   | e=>K e A S)
  (λh A S K=>aDy h E.most A S K)
  (λh A S K=>h A S K)
  (λf params assign body A S K=>VG E r f params assign body A S K)
  (λid A S K=>K (.exit id) A S)
  (λA S K=>K .normal A S)
  (λA S K=>K .ret A S)
  (λ_ _ _=>false) c
def KE(l:List Nat)(S:St)(k:St->Bool):Bool:=
 fS (β:=St->Bool) (λS=>k S) (λd _ ih S=>oV S.h d λo=>match o with | .defers=>rE S d .dead ih | _=>false) l S
def rH(P:Program)(rs:List ResultVar)(A:aO)(S:St)(k:List Value->Bool):Bool:=
 fS (β:=(List Value->Bool)->Bool) (λk=>k []) (λx _ ih k=>match x with
  | .tmp t=>SC A.tmps t λv=>ih λvs=>k (v::vs)
  | .cell a t=>SC A.tmps a λa=>KU P t a S λv _=>ih λvs=>k (v::vs)) rs k
def VH(E:Env)(dr:Array Oper->aO->St->(aO->St->Bool)->Bool)(f:FuncId)(args:List Value)(S:St)(K:VK):Bool:=
 match E.P.funcs[f]? with
 | some fn=>match fn.body with
  | some c=>cG fn.ntmps λn=>aDv n args λts=>uU E dr none c ⟨ts,[],E.P.globals.size⟩ S λe A S=>
   match e with
   | .exit _=>false
   | _=>KE A.marks S λS=>rH E.P fn.results.toList A S λvs=>match vs with | [v]=>K v S | vs=>K (.tuple ⟨vs⟩) S
  | none=>false
 | none=>false
def Bq(E:Env)(dr:Array Oper->aO->St->(aO->St->Bool)->Bool)(l:Nat)(args:List Value)(S:St)(K:VK):Bool:=
 oV S.h l λo=>match o with
  | .loop tmps params assign body _ _=>
   let laid:List Tmp->List Value->Tm->(Tm->Bool)->Bool:=λps=>fS (β:=List Value->Tm->(Tm->Bool)->Bool)
    (λas ts k=>match as with | []=>k ts | _=>false) (λp _ ih as ts k=>match as with | a::as=>sB a ts p λts=>ih as ts k | []=>false) ps
   laid params args tmps λts=>uU E dr (some l) assign ⟨ts,[],E.P.globals.size⟩ S λe A S=>match e with
    | .normal=>oV S.h l λo=>match o with
     | .loop tm ps as bo .ready pe=>rE S l (.loop tm ps as bo .busy pe) λS=>uU E dr (some l) body A S λe _ S=>
      oV S.h l λo=>match o with
       | .loop tm ps as bo _ _=>match e with
        | .normal=>rE S l (.loop tm ps as bo .ready none) λS=>K (.bool true) S
        | .ret=>rE S l (.loop tm ps as bo .done (some .ret)) λS=>K (.bool false) S
        | .exit id=>rE S l (.loop tm ps as bo .done (some (.exit id))) λS=>K (.bool false) S
       | _=>false
     | _=>false
    | _=>false
  | _=>false
def env(P:Program)(ov:FuncId->Option (List Value->St->VK->Bool))(dr:Env->Array Oper->aO->St->(aO->St->Bool)->Bool)(most:Nat)(n:Nat):Env:=
 ML (β:=Env) {P,ov,call:=λ_ _ _ _=>false,round:=λ_ _ _ _=>false,most}
  (λ_ E=>{P,ov,call:=λf args S K=>match ov f with | some g=>g args S K | none=>VH E (dr E) f args S K,round:=λl args S K=>Bq E (dr E) l args S K,most}) n
section
variable{α β:Type}
theorem GQ(z:β)(s:Nat->β):oU 0 z s=z:=rfl
theorem Js(n:Nat)(z:β)(s:Nat->β):oU (n+1) z s=s n:=rfl
theorem tD(z:β)(s:α->List α->β->β):fS z s []=z:=rfl
theorem aS(a:α)(l:List α)(z:β)(s:α->List α->β->β):fS z s (a::l)=s a l (fS z s l):=rfl
theorem By(z:β)(s:Nat->β->β):ML z s 0=z:=rfl
theorem Pm(n:Nat)(z:β)(s:Nat->β->β):ML z s (n+1)=s n (ML z s n):=rfl
theorem bA(n:Nat)(k:Nat->Bool):cG n k=k n:=by cases n<;>rfl
theorem nG(n:Int)(k:Int->Bool):zK n k=k n:=by cases n<;>simp [zK,aLC,bA]
theorem oQ(b:Bool)(k:Bool->Bool):UX b k=k b:=by cases b<;>rfl
theorem lV(t:Tr α)(n:Nat)(k:α->Bool):oV t n k=match t.get n with | some x=>k x | none=>false:=by
 induction t generalizing n with
 | leaf=>rfl
 | node v l r ihl ihr=>
  cases n with
  | zero=>cases v<;>rfl
  | succ p=>
   have hd:oV (.node v l r) (p+1) k=(oU (Nat.mod p 2) (oV l (Nat.div p 2) k) λ_=>oV r (Nat.div p 2) k):=rfl;rw [hd];have hm:p%2=0\/p%2=1:=by omega
   rcases hm with hm | hm
   ·have:Nat.mod p 2=0:=hm
    rw [this,GQ,ihl];have e1:(p+1) / 2=Nat.div p 2:=by show _=p / 2;omega
    simp only [Tr.get,JY,KA,and_false,if_false,show(p+1)%2=1 by omega,if_true,e1]
   ·have:Nat.mod p 2=1:=hm
    rw [this];show oV r (Nat.div p 2) k=_;rw [ihr];have e1:(p+1) / 2-1=Nat.div p 2:=by show _=p / 2;omega
    simp only [Tr.get,JY,KA,and_false,if_false,show ¬(p+1)%2=1 by omega,e1]
theorem MR(x:α):∀(f:Nat) (t:Tr α) (n:Nat) (k:Tr α->Bool),SY x f t n k=k (Tr.FE x f t n):=by
 intro f;induction f with
 | zero=>intro t n k;rfl
 | succ f ih=>
  intro t n k
  have hs:SY x (f+1) t n k=aDt t
   (oU n (k (.node (some x) .leaf .leaf)) λp=>oU (Nat.mod p 2) (SY x f .leaf (Nat.div p 2) λc=>k (.node none c .leaf)) λ_=>SY x f .leaf (Nat.div p 2) λc=>k (.node none .leaf c))
   (λv l r=>oU n (k (.node (some x) l r)) λp=>oU (Nat.mod p 2) (SY x f l (Nat.div p 2) λc=>k (.node v c r)) λ_=>SY x f r (Nat.div p 2) λc=>k (.node v l c)):=rfl
  rw [hs];cases t with
  | leaf=>
   cases n with
   | zero=>simp [aDt,Tr.FE,GQ]
   | succ p=>
    show(oU (Nat.mod p 2) _ λ_=>_)=_;have hm:p%2=0\/p%2=1:=by omega
    rcases hm with hm | hm
    ·have h0:Nat.mod p 2=0:=hm
     rw [h0,GQ,ih];have e1:(p+1) / 2=Nat.div p 2:=by show _=p / 2;omega
     simp [Tr.FE,show(p+1)%2=1 by omega,e1]
    ·have h0:Nat.mod p 2=0+1:=hm
     rw [h0,Js,ih];have e1:(p+1) / 2-1=Nat.div p 2:=by show _=p / 2;omega
     simp [Tr.FE,show ¬(p+1)%2=1 by omega,e1]
  | node v l r=>
   cases n with
   | zero=>simp [aDt,Tr.FE,GQ]
   | succ p=>
    show(oU (Nat.mod p 2) _ λ_=>_)=_;have hm:p%2=0\/p%2=1:=by omega
    rcases hm with hm | hm
    ·have h0:Nat.mod p 2=0:=hm
     rw [h0,GQ,ih];have e1:(p+1) / 2=Nat.div p 2:=by show _=p / 2;omega
     simp [Tr.FE,show(p+1)%2=1 by omega,e1]
    ·have h0:Nat.mod p 2=0+1:=hm
     rw [h0,Js,ih];have e1:(p+1) / 2-1=Nat.div p 2:=by show _=p / 2;omega
     simp [Tr.FE,show ¬(p+1)%2=1 by omega,e1]
theorem Jt(x:α):∀(f:Nat) (t:Tr α) (n m:Nat),n<f->(Tr.FE x f t n).get m=if m=n then some x else t.get m:=by
 intro f;induction f with
 | zero=>intro t n m h;omega
 | succ f ih=>
  intro t n m h;have hl:∀m,(Tr.leaf:Tr α).get m=none:=λm=>rfl;cases t with
  | leaf=>
   simp only [Tr.FE];by_cases h0:n=0
   ·subst h0
    by_cases hm:m=0<;>simp [Tr.get,hm]
   ·by_cases h1:n%2=1
    ·simp only [h0,h1,if_true,if_false,Tr.get]
     by_cases hm:m=0
     ·subst hm;simp [dB h0]
     ·by_cases h2:m%2=1
      ·rw [if_neg hm,if_pos h2,ih _ _ _ (by omega)]
       by_cases e:m=n
       ·subst e;simp
       ·rw [if_neg e,if_neg (by omega),hl]
      ·rw [if_neg hm,if_neg h2,if_neg (by omega)]
    ·simp only [h0,h1,if_false,Tr.get]
     by_cases hm:m=0
     ·subst hm;simp [dB h0]
     ·by_cases h2:m%2=1
      ·rw [if_neg hm,if_pos h2,if_neg (by omega)]
      ·rw [if_neg hm,if_neg h2,ih _ _ _ (by omega)]
       by_cases e:m=n
       ·subst e;simp
       ·rw [if_neg e,if_neg (by omega),hl]
  | node v l r=>
   simp only [Tr.FE];by_cases h0:n=0
   ·subst h0
    by_cases hm:m=0<;>simp [Tr.get,hm]
   ·by_cases h1:n%2=1
    ·simp only [h0,h1,if_true,if_false,Tr.get]
     by_cases hm:m=0
     ·subst hm;simp [dB h0]
     ·by_cases h2:m%2=1
      ·rw [if_neg hm,if_pos h2,ih _ _ _ (by omega)]
       by_cases e:m=n
       ·subst e;simp
       ·rw [if_neg e,if_neg (by omega),if_neg hm,if_pos h2]
      ·rw [if_neg hm,if_neg h2,if_neg (by omega),if_neg hm,if_neg h2]
    ·simp only [h0,h1,if_false,Tr.get]
     by_cases hm:m=0
     ·subst hm;simp [dB h0]
     ·by_cases h2:m%2=1
      ·rw [if_neg hm,if_pos h2,if_neg (by omega),if_neg hm,if_pos h2]
      ·rw [if_neg hm,if_neg h2,ih _ _ _ (by omega)]
       by_cases e:m=n
       ·subst e;simp
       ·rw [if_neg e,if_neg (by omega),if_neg hm,if_neg h2]
theorem xH(t:Tr α)(n:Nat)(x:α)(m:Nat):(t.put n x).get m=if m=n then some x else t.get m:=Jt x _ t n m (xS n)
theorem aJL(l:List α)(i:Nat)(k:α->Bool):SZ l i k=match l[i]? with | some a=>k a | none=>false:=by
 induction l generalizing i with
 | nil=>rfl
 | cons a l ih=>
  cases i with
  | zero=>rfl
  | succ i=>exact(ih i).trans (by simp)
theorem Jp(v:α)(l:List α)(i:Nat)(k:List α->Bool):aDu v l i k=k (l.set i v):=by
 induction l generalizing i k with
 | nil=>rfl
 | cons a l ih=>
  cases i with
  | zero=>rfl
  | succ i=>exact ih i _
theorem aDz(l:List α)(k:List α->Bool):aJG l k=k l:=by
 induction l generalizing k with
 | nil=>rfl
 | cons a l ih=>exact ih _
theorem lE(l m:List α)(k:List α->Bool):zN l m k=k (l++m):=by
 induction l generalizing k with
 | nil=>rfl
 | cons a l ih=>exact ih _
theorem CX(n:Nat)(l:List α)(k:List α->Bool):PE n l k=if n<=l.length then k (l.take n)else false:=by
 induction n generalizing l k with
 | zero=>simp [PE,By]
 | succ n ih=>
  cases l with
  | nil=>rfl
  | cons a l=>
   show PE n l (λt'=>k (a::t'))=_;rw [ih];simp
theorem zT(n:Nat)(l:List α)(k:List α->Bool):IM n l k=if n<=l.length then k (l.drop n)else false:=by
 induction n generalizing l with
 | zero=>simp [IM,By]
 | succ n ih=>
  cases l with
  | nil=>rfl
  | cons a l=>
   show IM n l k=_;rw [ih];simp
def aE(off:Nat)(new l:List α):List α:=l.take off++new++l.drop (off+new.length)
theorem aGB(new l:List α)(k:List α->Bool):Xl new l k=if new.length<=l.length then k (new++l.drop new.length)else false:=by
 induction new generalizing l k with
 | nil=>simp [Xl,tD]
 | cons a new ih=>
  cases l with
  | nil=>rfl
  | cons b l=>
   show Xl new l (λt'=>k (a::t'))=_;rw [ih];simp
theorem xW(off:Nat)(new l:List α)(k:List α->Bool):rF off new l k=if off+new.length<=l.length then k (aE off new l)else false:=by
 induction off generalizing l k with
 | zero=>
  show Xl new l k=_;rw [aGB];simp [aE]
 | succ off ih=>
  cases l with
  | nil=>show false=_;rw [if_neg (by simp)]
  | cons b l=>
   show rF off new l (λt'=>k (b::t'))=_;rw [ih];have:off+1+new.length<=(b::l).length↔off+new.length<=l.length:=by simp;omega
   simp only [this];have e:aE (off+1) new (b::l)=b::aE off new l:=by simp [aE,show off+1+new.length=(off+new.length)+1 by omega]
   rw [e]
theorem kY(off:Nat)(new l:List α)(h:off+new.length<=l.length):(aE off new l).length=l.length:=by simp [aE];omega
theorem fW(off:Nat)(new l:List α)(h:off+new.length<=l.length)(j:Nat):
 (aE off new l)[j]? =if off<=j/\j<off+new.length then new[j-off]? else l[j]? :=by
 unfold aE;by_cases h1:j<off
 ·rw [if_neg (by omega),DW,fB (by simp;omega),kR,if_pos h1]
 ·by_cases h2:j<off+new.length
  ·rw [if_pos (by omega),DW,iG (by simp;omega),fB (by simp;omega)]
   congr 1;simp;omega
  ·rw [if_neg (by omega),iG (by simp;omega),kS]
   congr 1;simp;omega
theorem kM(l:List α)(k:Nat->Bool):CU l k=k l.length:=by
 have h:∀(l:List α) (n:Nat),fS (β:=Nat->Bool) (λn=>k n) (λ_ _ ih n=>cG (Nat.succ n) ih) l n=k (n+l.length):=by
  intro l;induction l with
  | nil=>intro n;rfl
  | cons a l ih=>
   intro n;rw [aS,bA,ih]
   congr 1;simp;omega
 unfold CU;rw [h,gB]
theorem CL(z:List α)(n:Nat)(k:List α->Bool):Xm z n k=k (List.replicate n z).flatten:=by
 have h:∀(n:Nat) (acc:List α),ML (β:=List α->Bool) (λacc=>k acc) (λ_ ih acc=>zN z acc ih) n acc=k ((List.replicate n z).flatten++acc):=by
  intro n;induction n with
  | zero=>intro acc;rfl
  | succ n ih=>
   intro acc;rw [Pm,lE,ih]
   have:(List.replicate n z).flatten++(z++acc)=(List.replicate (n+1) z).flatten++acc:=by
    rw [List.replicate_succ',List.flatten_append];simp
   rw [this]
 unfold Xm;rw [h,nP]
theorem jZ(f:α->Bool)(l:List α):rD f l=l.all f:=by
 induction l with
 | nil=>rfl
 | cons a l ih=>
  show dL (f a) (rD f l) false=_;cases h:f a<;>simp [dL,h,ih]
theorem aEN(l:List α)(i:Nat)(k:List α->Bool):aGt l i k=k (l.eraseIdx i):=by
 induction l generalizing i k with
 | nil=>rfl
 | cons a l ih=>
  cases i with
  | zero=>rfl
  | succ i=>exact ih i _
end
theorem Yd(l:List Nat)(h:Tr iP)(k:Tr iP->Bool):Pc l h k=k (l.foldl (λh i=>h.put i .dead) h):=by
 induction l generalizing h with
 | nil=>rfl
 | cons i l ih=>
  show SY .dead (Nat.succ i) h i (λh=>Pc l h k)=_;rw [MR,ih];rfl
theorem Ye(l:List Nat)(h:Tr iP)(m:Nat):(l.foldl (λh i=>h.put i iP.dead) h).get m=if m∈l then some .dead else h.get m:=by
 induction l generalizing h with
 | nil=>simp
 | cons i l ih=>
  rw [PA,ih,xH];by_cases h1:m∈l
  ·simp [h1]
  ·by_cases h2:m=i
   ·simp [h2]
   ·simp [h1,h2]
def St.set(S:St)(i:Nat)(o:iP):St:=⟨S.h.put i o,S.n⟩
def St.new(S:St)(o:iP):St:=⟨S.h.put S.n o,S.n+1⟩
def St.obj(S:St)(i:Nat):Option iP:=S.h.get i
theorem CM(S:St)(i:Nat)(o:iP)(j:Nat):(S.set i o).obj j=if j=i then some o else S.obj j:=xH _ _ _ _
theorem MQ(S:St)(o:iP)(j:Nat):(S.new o).obj j=if j=S.n then some o else S.obj j:=xH _ _ _ _
theorem gZ(S:St)(o:iP)(k:Nat->St->Bool):uH S o k=k S.n (S.new o):=by simp [uH,MR,bA,St.new,Tr.put]
theorem gR(S:St)(i:Nat)(o:iP)(k:St->Bool):rE S i o k=k (S.set i o):=by simp [rE,MR,St.set,Tr.put]
theorem uZ{S:St}{i:Nat}{k:List Value->TypeId->CK->Bool}(h:wJ S i k=true):∃vs e c,S.obj i=some (.cells vs e c)/\k vs e c=true:=by
 unfold wJ at h;rw [lV]at h;cases ho:S.h.get i with
 | none=>simp [ho]at h
 | some o=>cases o<;>simp [ho]at h;exact⟨_,_,_,ho,h⟩
theorem sL{S:St}{i off n:Nat}{k:List Value->Bool}(h:EQ S i off n k=true):
 ∃vs e c,S.obj i=some (.cells vs e c)/\off+n<=vs.length/\k ((vs.drop off).take n)=true:=by
 obtain⟨vs,e,c,ho,h⟩:=uZ h;rw [zT]at h;split at h
 ·rw [CX]at h
  split at h
  ·rename_i h1 h2
   exact⟨vs,e,c,ho,by simp at h2;omega,h⟩
  ·simp at h
 ·simp at h
theorem LA{α:Type}{l:List α}{i:Nat}{k:α->Bool}(h:SZ l i k=true):∃a,l[i]? =some a/\k a=true:=by
 rw [aJL]at h;cases ha:l[i]? with
 | none=>simp [ha]at h
 | some a=>exact⟨a,rfl,by simpa [ha]using h⟩
theorem CZ{T:Tm}{i:Nat}{k:Value->Bool}(h:SC T i k=true):∃v,T.t.get i=some v/\k v=true:=by
 unfold SC at h;rw [lV]at h;cases hx:T.t.get i with
 | none=>rw [hx]at h;cases h
 | some x=>rw [hx]at h;exact⟨x,rfl,h⟩
def Tm.put(T:Tm)(i:Nat)(v:Value):Tm:=⟨T.t.put i v,T.n⟩
theorem BT{v:Value}{T:Tm}{i:Nat}{k:Tm->Bool}(h:sB v T i k=true):i<T.n/\k (T.put i v)=true:=by
 unfold sB at h;split at h
 ·rename_i hb
  rw [MR]at h;exact⟨aW hb,h⟩
 ·cases h
theorem aGC{A:aO}{x:Operand}{k:Value->Bool}(h:tC A x k=true):
 ∃v,k v=true/\((∃t,x= .tmp t/\A.tmps.t.get t=some v)\/(x= .const v/\jV v=true)\/(∃g,x= .global g/\g<A.g/\v= .pointer (some ⟨g,0,none⟩))\/(∃f,x= .func f/\v= .func (.func f) #[] #[])):=by
 cases x with
 | tmp t=>obtain⟨a,ha,hk⟩:=CZ h;exact⟨a,hk,.inl ⟨t,rfl,ha⟩⟩
 | const v=>
  cases hf:jV v with
  | true=>exact⟨v,by simpa [tC,hf]using h,.inr (.inl ⟨rfl,hf⟩)⟩
  | false=>simp [tC,hf]at h
 | global g=>
  cases hg:Nat.blt g A.g with
  | true=>exact⟨_,by simpa [tC,hg]using h,.inr (.inr (.inl ⟨g,rfl,aW hg,rfl⟩))⟩
  | false=>simp [tC,hg]at h
 | func f=>exact⟨_,h,.inr (.inr (.inr ⟨f,rfl,rfl⟩))⟩
end Go.Am
namespace Go.Am
open Go.RowKit
structure Loc where
 b:Nat
 s:Nat
 e:Nat
 m:Nat
abbrev Rn:=Nat->Option Loc
inductive VR(U:Rn):Value->Value->Prop
 | flat {v:Value} (h:bE v=true):VR U v v
 | ptr {i o:Nat} {L:Loc} (h:U i=some L):VR U (.pointer (some ⟨i,o,none⟩)) (.pointer (some ⟨L.b,L.s+o,none⟩))
 | slice {i o n c:Nat} {L:Loc} (h:U i=some L):VR U (.slice (some ⟨i,o,none⟩) n c) (.slice (some ⟨L.b,L.s+o,none⟩) n c)
 | oG {i o n c c':Nat} {L:Loc} (h:U i=some L) (hc:c<=c') (hn:n<=c) (he:L.s+o+c'*L.m=L.e) (hm:0<L.m):VR U (.slice (some ⟨i,o,some 0⟩) n c) (.slice (some ⟨L.b,L.s+o,none⟩) n c')
 | zQ {i c':Nat} {a:Addr}:VR U (.slice (some ⟨i,0,some 1⟩) 0 0) (.slice (some a) 0 c')
 | zR {b o s:Nat} {sp:Option Nat} (hs:sp=match s with | 0=>none | k+1=>some k):VR U (.slice (some ⟨b,o,some (s+2)⟩) 0 0) (.slice (some ⟨b,o,sp⟩) 0 0)
 | map {i:Nat} {L:Loc} (h:U i=some L):VR U (.map (some i)) (.map (some L.b))
 | func {f:FuncId} {a a' c c':Array Value} (ha:a.size=a'.size) (hc:c.size=c'.size) (h1:∀(k:Nat) (v v':Value),a.toList[k]? =some v->a'.toList[k]? =some v'->VR U v v')
  (h2:∀(k:Nat) (v v':Value),c.toList[k]? =some v->c'.toList[k]? =some v'->VR U v v'):VR U (.func (.func f) a c) (.func (.func f) a' c')
 | yield {l:Nat} {L:Loc} (h:U l=some L):VR U (.func (.yield l) #[] #[]) (.func (.yield L.b) #[] #[])
 | GS {s:String} {v v':Value} (h:VR U v v'):VR U (.func (.method s) ⟨[v]⟩ ⟨[]⟩) (.func (.method s) ⟨[v']⟩ ⟨[]⟩)
 | iface {t:TypeId} {v v':Value} (h:VR U v v'):VR U (.iface t v) (.iface t v')
 | agg {a a':Array Value} (ha:a.size=a'.size) (h1:∀(k:Nat) (v v':Value),a.toList[k]? =some v->a'.toList[k]? =some v'->VR U v v'):VR U (.agg a) (.agg a')
 | tuple {a a':Array Value} (ha:a.size=a'.size) (h1:∀(k:Nat) (v v':Value),a.toList[k]? =some v->a'.toList[k]? =some v'->VR U v v'):VR U (.tuple a) (.tuple a')
def lD(U:Rn)(l l':List Value):Prop:=l.length=l'.length/\∀(k:Nat) (v v':Value),l[k]? =some v->l'[k]? =some v'->VR U v v'
def Yh(U:Rn)(T:Tm)(l':List Value):Prop:=T.n=l'.length/\∀(k:Nat) (v:Value),T.t.get k=some v->∃v',l'[k]? =some v'/\VR U v v'
theorem Yh.get{U:Rn}{T:Tm}{l':List Value}(h:Yh U T l'){k:Nat}{v:Value}(hv:T.t.get k=some v):∃v',l'[k]? =some v'/\VR U v v':=h.2 k v hv
theorem Yh.set{U:Rn}{T:Tm}{l':List Value}(h:Yh U T l'){i:Nat}(hi:i<T.n){v v':Value}(hv:VR U v v'):Yh U (T.put i v) (l'.set i v'):=by
 refine⟨by simpa [Tm.put]using h.1,λk x hx=>?_⟩;have hx:(T.t.put i v).get k=some x:=hx;rw [xH]at hx;have hl:i<l'.length:=by rw [<-h.1];exact hi
 by_cases e:k=i
 ·subst e
  rw [if_pos rfl]at hx;injection hx with hx;subst hx;exact⟨v',by simp [hl],hv⟩
 ·rw [if_neg e]at hx
  obtain⟨y,hy,hr⟩:=h.2 k x hx;exact⟨y,by rw [UO (dB e)];exact hy,hr⟩
def Ext(U U':Rn):Prop:=∀i L,U i=some L->U' i=some L
theorem Ext.refl(U:Rn):Ext U U:=λ_ _ h=>h
theorem Ext.trans{a b c:Rn}(h:Ext a b)(k:Ext b c):Ext a c:=λi L e=>k i L (h i L e)
theorem VR.mono{U U':Rn}(he:Ext U U'){v v':Value}(h:VR U v v'):VR U' v v':=by
 induction h with
 | flat h=>exact .flat h
 | ptr h=>exact .ptr (he _ _ h)
 | slice h=>exact .slice (he _ _ h)
 | oG h hc hn hh hm=>exact .oG (he _ _ h) hc hn hh hm
 | zQ=>exact .zQ
 | zR hs=>exact .zR hs
 | map h=>exact .map (he _ _ h)
 | func ha hc _ _ i1 i2=>exact .func ha hc i1 i2
 | yield h=>exact .yield (he _ _ h)
 | GS _ ih=>exact .GS ih
 | iface _ ih=>exact .iface ih
 | agg ha _ ih=>exact .agg ha ih
 | tuple ha _ ih=>exact .tuple ha ih
theorem lD.mono{U U':Rn}(he:Ext U U'){l l':List Value}(h:lD U l l'):lD U' l l':=⟨h.1,λk v v' a b=>(h.2 k v v' a b).mono he⟩
theorem Yh.mono{U U':Rn}(he:Ext U U'){T:Tm}{l':List Value}(h:Yh U T l'):Yh U' T l':=⟨h.1,λk v hv=>let⟨v',a,b⟩:=h.2 k v hv;⟨v',a,b.mono he⟩⟩
theorem lD.nil(U:Rn):lD U [] []:=⟨rfl,by simp⟩
theorem lD.cons{U:Rn}{v v':Value}{l l':List Value}(h:VR U v v')(t:lD U l l'):lD U (v::l) (v'::l'):=by
 refine⟨by simp [t.1],λk x x' a b=>?_⟩;cases k with
 | zero=>simp at a b;subst a b;exact h
 | succ k=>simp at a b;exact t.2 k x x' a b
theorem lD.head{U:Rn}{v v':Value}{l l':List Value}(h:lD U (v::l) (v'::l')):VR U v v':=h.2 0 v v' rfl rfl
theorem lD.tail{U:Rn}{v v':Value}{l l':List Value}(h:lD U (v::l) (v'::l')):lD U l l':=
 ⟨by simpa using h.1,λk x x' a b=>h.2 (k+1) x x' (by simpa using a) (by simpa using b)⟩
theorem lD.jP{U:Rn}{l':List Value}(h:lD U [] l'):l'=[]:=mS (by simpa using h.1.symm)
theorem lD.cC{U:Rn}{v:Value}{l l':List Value}(h:lD U (v::l) l'):∃v' t',l'=v'::t'/\VR U v v'/\lD U l t':=by
 cases l' with
 | nil=>have:=h.1;simp at this
 | cons v' t'=>exact⟨v',t',rfl,h.head,h.tail⟩
theorem lD.get{U:Rn}{l l':List Value}(h:lD U l l'){k:Nat}{v:Value}(hv:l[k]? =some v):∃v',l'[k]? =some v'/\VR U v v':=by
 have hk:k<l'.length:=by rw [<-h.1];exact(dS.1 hv).1
 exact⟨l'[k],aP hk,h.2 k v _ hv (aP hk)⟩
theorem lD.get_none{U:Rn}{l l':List Value}(h:lD U l l'){k:Nat}(hv:l[k]? =none):l'[k]? =none:=by
 rw [List.getElem?_eq_none_iff]at*;rw [<-h.1];exact hv
theorem lD.append{U:Rn}{l l' m m':List Value}(h:lD U l l')(k:lD U m m'):lD U (l++m) (l'++m'):=by
 refine⟨by simp [h.1,k.1],λj v v' a b=>?_⟩;by_cases hj:j<l.length
 ·rw [fB hj]at a
  rw [fB (by rw [<-h.1];exact hj)]at b;exact h.2 j v v' a b
 ·rw [iG (by omega)]at a
  rw [iG (by rw [<-h.1];omega),<-h.1]at b;exact k.2 _ v v' a b
theorem lD.take{U:Rn}{l l':List Value}(h:lD U l l')(n:Nat):lD U (l.take n) (l'.take n):=by
 refine⟨by simp [h.1],λj v v' a b=>?_⟩;rw [kR]at a b;split at a
 ·rename_i hj;rw [if_pos hj]at b;exact h.2 j v v' a b
 ·simp at a
theorem lD.drop{U:Rn}{l l':List Value}(h:lD U l l')(n:Nat):lD U (l.drop n) (l'.drop n):=by
 refine⟨by simp [h.1],λj v v' a b=>?_⟩;rw [kS]at a b;exact h.2 _ v v' a b
theorem lD.aE{U:Rn}{l l' n n':List Value}(h:lD U l l')(k:lD U n n')(off:Nat):lD U (aE off n l) (aE off n' l'):=by
 unfold Am.aE;rw [<-k.1];exact((h.take off).append k).append (h.drop _)
theorem lD.flat{U:Rn}{l:List Value}(h:∀v∈l,bE v=true):lD U l l:=
 ⟨rfl,λk v v' a b=>by rw [a]at b;injection b with b;subst b;exact .flat (h v (wI a))⟩
theorem lD.flatten{U:Rn}{z z':List Value}(h:lD U z z')(n:Nat):lD U (List.replicate n z).flatten (List.replicate n z').flatten:=by
 induction n with
 | zero=>exact .nil U
 | succ n ih=>simp only [Rp,Bg];exact h.append ih
theorem VR.jV{U:Rn}{v:Value}(h:jV v=true):VR U v v:=by
 cases v<;>first
  | exact .flat h
  | (rename_i cs;exact .agg rfl (lD.flat (U:=U) (dJ.1 h)).2)
theorem VR.of_flat{U:Rn}{v v':Value}(h:VR U v v')(hf:bE v=true):v'=v:=by
 cases h<;>first | rfl | simp [bE]at hf
theorem VR.IN{U:Rn}{a:Array Value}{v':Value}(h:VR U (.agg a) v'):∃a',v'= .agg a'/\lD U a.toList a'.toList:=by
 cases h with
 | flat h=>simp [bE]at h
 | agg ha h1=>exact⟨_,rfl,by simpa using ha,h1⟩
theorem VR.LF{U:Rn}{a:Array Value}{v':Value}(h:VR U (.tuple a) v'):∃a',v'= .tuple a'/\lD U a.toList a'.toList:=by
 cases h with
 | flat h=>simp [bE]at h
 | tuple ha h1=>exact⟨_,rfl,by simpa using ha,h1⟩
theorem VR.Sd{U:Rn}{a a':Array Value}(h:lD U a.toList a'.toList):VR U (.agg a) (.agg a'):= .agg (by simpa using h.1) h.2
theorem VR.rI{U:Rn}{a a':Array Value}(h:lD U a.toList a'.toList):VR U (.tuple a) (.tuple a'):= .tuple (by simpa using h.1) h.2
theorem VR.Xv{U:Rn}{v v':Value}(h:VR U v v')(hf:Am.jV v=true):v'=v:=by
 by_cases ha:∃a,v= .agg a
 ·obtain⟨a,rfl⟩:=ha
  obtain⟨a',rfl,hl⟩:=h.IN;have Nm:∀x∈a.toList,bE x=true:=dJ.1 hf
  have:a'.toList=a.toList:=by
   apply uO;intro k;cases hk:a.toList[k]? with
   | none=>exact hl.get_none hk
   | some x=>
    obtain⟨x',Eh,hr⟩:=hl.get hk;rw [Eh,hr.of_flat (Nm x (wI hk))]
  rw [iR.1 this]
 ·refine h.of_flat ?_
  cases v<;>first | exact hf | (exact absurd ⟨_,rfl⟩ ha)
theorem VR.gH{U:Rn}{v v':Value}(h:VR U v v')(ho:gH v=true):v'.oneCell'=true:=by
 cases h<;>first | rfl | (simp [Am.gH]at ho;done) | (rename_i h;revert ho;cases v<;>simp [Am.gH,Value.oneCell'])
section
variable(P:Program)(w0:World)
def Bv(n:Nat)(fz:Nat×Nat):Prop:=∀x,x<n->¬(fz.1<=x/\x<fz.2)
def Hk(n:Nat)(fz:Nat×Nat):Prop:=∀x,x<=n->¬(fz.1<=x/\x<fz.2)
theorem Hk.to{n:Nat}{fz:Nat×Nat}(h:Hk n fz):Bv n fz:=λx hx=>h x (Nat.le_of_lt hx)
def Ta(L:Loc)(cs:Array Value)(n:Nat)(fz:Nat×Nat)(e t:TypeId):CK->Prop
 | .ro=>bP P e=some L.m
 | .rs=>bP P e=some L.m/\∀j,j<n->¬(fz.1<=L.s+j/\L.s+j<fz.2)
 | .exact=>w0.heap.size<=L.b/\L.s=0/\cs.size=n/\Hk cs.size fz/\t=e
 | .grown _=>w0.heap.size<=L.b/\Bv cs.size fz/\L.e=cs.size/\bP P e=some L.m/\t=e
 | .sA=>w0.heap.size<=L.b/\bP P e=some L.m/\t=e
def PM(U:Rn)(e e':MapEntry):Prop:=e'.key=e.key/\jV e.key=true/\e'.born=e.born/\VR U e.val e'.val
def gA(U:Rn)(l l':List MapEntry):Prop:=l.length=l'.length/\∀(k:Nat) (e e':MapEntry),l[k]? =some e->l'[k]? =some e'->PM U e e'
def BR(U:Rn)(w:World)(i:Nat):iP->Prop
 | .dead=>True
 | .cells vs e k=>∃L cs t fz,U i=some L/\w.heap[L.b]? =some (.cells cs t fz)/\(∀(j:Nat) (v:Value),vs[j]? =some v->∃v',cs[L.s+j]? =some v'/\VR U v v')/\Ta P w0 L cs vs.length fz e t k
 | .map es c=>∃L iW,U i=some L/\w0.heap.size<=L.b/\w.heap[L.b]? =some (.map iW c)/\gA U es iW.toList
 | .loop tmps params assign body st pe=>∃L r,U i=some L/\w0.heap.size<=L.b/\w.heap[L.b]? =some (.loop r)/\r.state=st/\r.pending=pe/\r.params.toList=params/\r.assign=assign/\r.body=body/\Yh U tmps r.tmps.toList
 | .defers=>∃L,U i=some L/\w0.heap.size<=L.b/\w.heap[L.b]? =some (.deferred (some []))
 | .iter none _ _ _=>∃L a b c,(U i=some L/\L.s=0)/\w0.heap.size<=L.b/\w.heap[L.b]? =some (.mapIter none a b c)
 | .iter (some r) since seen last=>∃L M,(U i=some L/\L.s=0)/\w0.heap.size<=L.b/\U r=some M/\w.heap[L.b]? =some (.mapIter (some M.b) since ⟨seen⟩ last)
def iP.xY:iP->Bool
 | .dead=>true
 | _=>false
def iP.reads:iP->Bool
 | .cells _ _ .ro | .cells _ _ .sA | .cells _ _ .rs=>true
 | _=>false
def iP.olds:iP->List Nat
 | .cells _ _ (.grown l)=>l
 | _=>[]
def aGx(i j:Nat)(a b:iP):Prop:=(a.reads=true/\b.reads=true)\/j∈a.olds\/i∈b.olds
def Xz(U:Rn)(j:Nat)(vs:List Value)(i:Nat)(o:iP):Prop:=
 o= .dead\/∃ws e,o= .cells ws e .sA/\∀L M,U j=some L->U i=some M->M.b=L.b->M.s+ws.length<=L.s+vs.length
structure Rel(U:Rn)(S:St)(w:World):Prop where
 Gl:∀g,g<P.globals.size->∃L,U g=some L/\L.b=g/\L.s=0
 GO:∀i o,S.obj i=some o->BR P w0 U w i o
 Xc:∀i,S.n<=i->U i=none
 lt:∀i o,S.obj i=some o->i<S.n
 loc:∀i L,U i=some L->L.b<w.heap.size
 sep:∀i j a b L M,i≠j->S.obj i=some a->S.obj j=some b->a.xY=false->b.xY=false->U i=some L->U j=some M->L.b=M.b->aGx i j a b
 old:∀j vs e olds,S.obj j=some (.cells vs e (.grown olds))->∀i∈olds,i<S.n/\∀o,S.obj i=some o->Xz U j vs i o
 base:Below w0.heap.size w0 w
end
theorem gA.mono{U U':Rn}(he:Ext U U'){l l':List MapEntry}(h:gA U l l'):gA U' l l':=
 ⟨h.1,λk e e' a b=>let⟨x,y,z,u⟩:=h.2 k e e' a b;⟨x,y,z,u.mono he⟩⟩
theorem BR.frame{P:Program}{w0:World}{U U':Rn}{w w':World}{i:Nat}{o:iP}(he:Ext U U')(hb:∀L,U i=some L->w'.heap[L.b]? =w.heap[L.b]?)(h:BR P w0 U w i o):BR P w0 U' w' i o:=by
 cases o with
 | dead=>trivial
 | cells vs e k=>
  obtain⟨L,cs,t,fz,h1,h2,h3,h4⟩:=h;exact⟨L,cs,t,fz,he _ _ h1,(hb L h1).trans h2,λj v hj=>let⟨v',a,b⟩:=h3 j v hj;⟨v',a,b.mono he⟩,h4⟩
 | map es c=>
  obtain⟨L,iW,h1,h2,h3,h4⟩:=h;exact⟨L,iW,he _ _ h1,h2,(hb L h1).trans h3,h4.mono he⟩
 | loop tmps params assign body st pe=>
  obtain⟨L,r,h1,h2,h3,h4,h5,h6,h7,h8,h9⟩:=h;exact⟨L,r,he _ _ h1,h2,(hb L h1).trans h3,h4,h5,h6,h7,h8,h9.mono he⟩
 | defers=>
  obtain⟨L,h1,h2,h3⟩:=h;exact⟨L,he _ _ h1,h2,(hb L h1).trans h3⟩
 | iter m since seen last=>
  cases m with
  | none=>obtain⟨L,a,b,c,h1,h2,h3⟩:=h;exact⟨L,a,b,c,⟨he _ _ h1.1,h1.2⟩,h2,(hb L h1.1).trans h3⟩
  | some r=>obtain⟨L,M,h1,h2,h3,h4⟩:=h;exact⟨L,M,⟨he _ _ h1.1,h1.2⟩,h2,he _ _ h3,(hb L h1.1).trans h4⟩
theorem BR.loc{P:Program}{w0:World}{U:Rn}{w:World}{i:Nat}{o:iP}(h:BR P w0 U w i o)(hd:o.xY=false):∃L,U i=some L:=by
 cases o with
 | dead=>cases hd
 | cells vs e k=>obtain⟨L,_,_,_,h1,_⟩:=h;exact⟨L,h1⟩
 | map es c=>obtain⟨L,_,h1,_⟩:=h;exact⟨L,h1⟩
 | loop _ _ _ _ _ _=>obtain⟨L,_,h1,_⟩:=h;exact⟨L,h1⟩
 | defers=>obtain⟨L,h1,_⟩:=h;exact⟨L,h1⟩
 | iter m since seen last=>cases m with
  | none=>obtain⟨L,_,_,_,h1,_⟩:=h;exact⟨L,h1.1⟩
  | some r=>obtain⟨L,_,h1,_⟩:=h;exact⟨L,h1.1⟩
def Fr(U:Rn)(w w':World):Prop:=w.heap.size<=w'.heap.size/\∀c,c<w.heap.size->(∀i L,U i=some L->L.b≠c)->w'.heap[c]? =w.heap[c]?
def Nw(U U':Rn)(w:World):Prop:=∀i L,U' i=some L->U i=some L\/w.heap.size<=L.b\/∃j M,U j=some M/\M.b=L.b
structure uI(U:Rn)(w:World)(U':Rn)(w':World):Prop where
 ext:Ext U U'
 fr:Fr U w w'
 nw:Nw U U' w
theorem uI.refl(U:Rn)(w:World):uI U w U w:=⟨.refl U,⟨bI _,λ_ _ _=>rfl⟩,λ_ _ h=> .inl h⟩
theorem uI.trans{U U1 U2:Rn}{w w1 w2:World}(h:uI U w U1 w1)(k:uI U1 w1 U2 w2):uI U w U2 w2:=by
 refine⟨h.ext.trans k.ext,⟨tP h.fr.1 k.fr.1,λc hc hn=>?_⟩,λi L hi=>?_⟩
 ·rw [k.fr.2 c (DV hc h.fr.1) (λi L hi=>?_),h.fr.2 c hc hn]
  rcases h.nw i L hi with h1 | h1 | ⟨j,M,h1,h2⟩
  ·exact hn i L h1
  ·omega
  ·rw [<-h2];exact hn j M h1
 ·rcases k.nw i L hi with h1 | h1 | ⟨j,M,h1,h2⟩
  ·exact h.nw i L h1
  ·exact .inr (.inl (tP h.fr.1 h1))
  ·rcases h.nw j M h1 with h3 | h3 | ⟨q,N,h3,h4⟩
   ·exact .inr (.inr ⟨j,M,h3,h2⟩)
   ·exact .inr (.inl (by omega))
   ·exact .inr (.inr ⟨q,N,h3,by omega⟩)
def Rn.put(U:Rn)(i:Nat)(L:Loc):Rn:=λj=>if j=i then some L else U j
theorem Rn.IT{U:Rn}{i:Nat}{L:Loc}(h:U i=none):Ext U (U.put i L):=λj M hj=>by
 unfold Rn.put;by_cases e:j=i
 ·subst e;rw [h]at hj;cases hj
 ·rw [if_neg e];exact hj
theorem Rn.kD(U:Rn)(i:Nat)(L:Loc):U.put i L i=some L:=if_pos rfl
section
variable{P:Program}{w0:World}{U:Rn}{S:St}{w:World}
theorem Rel.new(h:Rel P w0 U S w)(o:iP)(ob:Obj)(L:Loc)(hL:L.b=w.heap.size)
 (ho:∀U':Rn,Ext U U'->U' S.n=some L->BR P w0 U' (w.alloc ob) S.n o)
 (hold:∀i∈o.olds,i<S.n/\∀x,S.obj i=some x->x= .dead\/∃ws e,x= .cells ws e .sA):
 Rel P w0 (U.put S.n L) (S.new o) (w.alloc ob)/\uI U w (U.put S.n L) (w.alloc ob):=by
 have IS:=h.Xc S.n (bI _);have he:Ext U (U.put S.n L):=Rn.IT IS;have hold:∀k,k<w.heap.size->(w.alloc ob).heap[k]? =w.heap[k]? :=λk hk=>by show(w.heap.push ob)[k]? =_;rw [UP,if_neg (by omega)]
 have hsz:(w.alloc ob).heap.size=w.heap.size+1:=Ru _
 have pX:∀j M,U.put S.n L j=some M->(j=S.n/\M=L)\/(j≠S.n/\U j=some M):=λj M hj=>by
  unfold Rn.put at hj;by_cases e:j=S.n
  ·rw [if_pos e]at hj;injection hj with hj;exact .inl ⟨e,hj.symm⟩
  ·rw [if_neg e]at hj;exact .inr ⟨e,hj⟩
 have pM:∀j x,(S.new o).obj j=some x->(j=S.n/\x=o)\/(j≠S.n/\S.obj j=some x):=λj x hx=>by
  rw [MQ]at hx;by_cases e:j=S.n
  ·rw [if_pos e]at hx;injection hx with hx;exact .inl ⟨e,hx.symm⟩
  ·rw [if_neg e]at hx;exact .inr ⟨e,hx⟩
 refine⟨⟨λg hg=>let⟨M,h1,h2⟩:=h.Gl g hg;⟨M,he _ _ h1,h2⟩,λj x hx=>?_,λj hj=>?_,λj x hx=>?_,λj M hj=>?_,λi j a b M N XS ha hb hda hdb hM hN Gk=>?_,λj vs e olds hj i hi=>?_,?_⟩,he,⟨by omega,λc hc _=>hold c hc⟩,λj M hj=>?_⟩
 ·rcases pM j x hx with ⟨e,ex⟩ | ⟨e,hx⟩
  ·subst e ex;exact ho _ he (Rn.kD _ _ _)
  ·exact(h.GO j x hx).frame he λM hM=>hold _ (h.loc j M hM)
 ·have Ny:S.n+1<=j:=hj
  unfold Rn.put;rw [if_neg (by omega)];exact h.Xc j (by omega)
 ·rcases pM j x hx with ⟨e,_⟩ | ⟨_,hx⟩
  ·subst e;exact xS _
  ·exact oT (h.lt j x hx)
 ·rcases pX j M hj with ⟨_,e⟩ | ⟨_,hM⟩
  ·subst e;omega
  ·have:=h.loc j M hM;omega
 ·rcases pX i M hM with ⟨ei,eM⟩ | ⟨ei,El⟩<;>rcases pX j N hN with ⟨ej,eN⟩ | ⟨ej,hN'⟩
  ·omega
  ·have:=h.loc j N hN';rw [eM]at Gk;omega
  ·have:=h.loc i M El;rw [eN]at Gk;omega
  ·rcases pM i a ha with ⟨e,_⟩ | ⟨_,ha'⟩
   ·exact absurd e ei
   ·rcases pM j b hb with ⟨e,_⟩ | ⟨_,TU⟩
    ·exact absurd e ej
    ·exact h.sep i j a b M N XS ha' TU hda hdb El hN' Gk
 ·rcases pM j _ hj with ⟨e1,e2⟩ | ⟨e1,Ny⟩
  ·subst e1 e2
   obtain⟨h1,h2⟩:=hold i hi;refine⟨oT h1,λx hx=>?_⟩;rcases pM i x hx with ⟨e3,_⟩ | ⟨_,Eh⟩
   ·omega
   ·rcases h2 x Eh with h3 | ⟨ws,e',h3⟩
    ·exact .inl h3
    ·refine .inr ⟨ws,e',h3,λL1 M Sz hM hb=>?_⟩
     rcases pX _ _ Sz with ⟨_,e4⟩ | ⟨e4,_⟩
     ·rcases pX _ _ hM with ⟨e5,_⟩ | ⟨_,El⟩
      ·omega
      ·have:=h.loc i M El;rw [e4]at hb;omega
     ·exact absurd rfl e4
  ·obtain⟨h1,h2⟩:=h.old j vs e olds Ny i hi
   refine⟨oT h1,λx hx=>?_⟩;rcases pM i x hx with ⟨e3,_⟩ | ⟨e3,Eh⟩
   ·omega
   ·rcases h2 x Eh with h3 | ⟨ws,e',h3,h4⟩
    ·exact .inl h3
    ·refine .inr ⟨ws,e',h3,λL1 M Sz hM hb=>?_⟩
     rcases pX _ _ Sz with ⟨e4,_⟩ | ⟨_,aGL⟩
     ·exact absurd e4 e1
     ·rcases pX _ _ hM with ⟨e5,_⟩ | ⟨_,El⟩
      ·exact absurd e5 e3
      ·exact h4 L1 M aGL El hb
 ·exact⟨h.base.os,h.base.tape,h.base.output,by have:=h.base.size;omega,λk hk=>(hold k (DV hk h.base.size)).trans (h.base.block k hk)⟩
 ·rcases pX j M hj with ⟨_,e⟩ | ⟨_,hM⟩
  ·subst e;exact .inr (.inl (by omega))
  ·exact .inl hM
theorem Rel.drew(h:Rel P w0 U S w):Rel P w0 U S w.drew:=
 ⟨h.Gl,λi o hi=>(h.GO i o hi).frame (.refl U) λ_ _=>rfl,h.Xc,h.lt,h.loc,h.sep,h.old,h.base.os,h.base.tape,h.base.output,h.base.size,h.base.block⟩
theorem uI.drew(U:Rn)(w:World):uI U w U w.drew:=⟨.refl U,⟨bI _,λ_ _ _=>rfl⟩,λ_ _ h=> .inl h⟩
theorem Rel.aM(h:Rel P w0 U S w){S':St}{w':World}{b:Nat}(hb:w0.heap.size<=b)(PU:∃i L,U i=some L/\L.b=b)(hn:S'.n=S.n)
 (hsz:w'.heap.size=w.heap.size) (aBW:∀c,c≠b->w'.heap[c]? =w.heap[c]?) (hos:w'.os=w.os) (aOl:w'.tape=w.tape) (aGM:w'.output=w.output)
 (pM:∀j x,S'.obj j=some x->(x.xY=true/\j<S.n)\/(S.obj j=some x/\∀L,U j=some L->L.b≠b)\/(j<S.n/\BR P w0 U w' j x))
 (aPX:∀i j x y L M,i≠j->S'.obj i=some x->S'.obj j=some y->x.xY=false->y.xY=false->U i=some L->U j=some M->L.b=M.b->aGx i j x y)
 (hold:∀j vs e olds,S'.obj j=some (.cells vs e (.grown olds))->∀i∈olds,i<S.n/\∀o,S'.obj i=some o->Xz U j vs i o):
 Rel P w0 U S' w'/\uI U w U w':=by
 refine⟨⟨h.Gl,λj x hx=>?_,λj hj=>h.Xc j (by omega),λj x hx=>?_,λj L hj=>by rw [hsz];exact h.loc j L hj,aPX,λj vs e olds hj i hi=>by rw [hn];exact hold j vs e olds hj i hi,?_⟩,.refl U,⟨by omega,λc _ hc=>?_⟩,λ_ _ h=> .inl h⟩
 ·rcases pM j x hx with ⟨hd,_⟩ | ⟨Eh,hL⟩ | ⟨_,hr⟩
  ·cases x<;>simp [iP.xY]at hd;trivial
  ·exact(h.GO j x Eh).frame (.refl U) λL hL'=>aBW _ (hL L hL')
  ·exact hr
 ·rw [hn]
  rcases pM j x hx with ⟨_,hl⟩ | ⟨Eh,_⟩ | ⟨hl,_⟩
  ·exact hl
  ·exact h.lt j x Eh
  ·exact hl
 ·exact⟨hos.trans h.base.os,aOl.trans h.base.tape,aGM.trans h.base.output,by have:=h.base.size;omega,λk hk=>(aBW k (by omega)).trans (h.base.block k hk)⟩
 ·obtain⟨i,L,hi,e⟩:=PU
  exact aBW c (λe'=>hc i L hi (by omega))
end
theorem Cc(s:ByteArray):s.toList=s.data.toList:=by
 have h:∀(n i:Nat) (r:List UInt8),s.size-i=n->ByteArray.toList.loop s i r=r.reverse++s.data.toList.drop i:=by
  intro n;induction n with
  | zero=>
   intro i r hn;unfold ByteArray.toList.loop;have:¬i<s.size:=by omega
   rw [if_neg this,List.drop_eq_nil_of_le (by show s.data.toList.length<=i;have:s.size=s.data.toList.length:=rfl;omega),nP]
  | succ n ih=>
   intro i r hn;unfold ByteArray.toList.loop;have hi:i<s.size:=by omega
   rw [if_pos hi,ih (i+1) _ (by omega)];have hl:i<s.data.toList.length:=hi;rw [zG hl];have e:s.data[i]! =s.data.toList[i]:=by rw [getElem!_pos s.data i hi];rfl
   simp [ByteArray.get!,e]
 have:=h s.size 0 [] (by omega);simpa [ByteArray.toList]using this
section
variable{K:Value->Bool}
theorem GR(x y:Int):Ns x y=decide (x<y):=by
 cases x<;>cases y<;>simp only [Ns,Nat.blt]<;>(rw [qU];simp only [decide_eq_true_eq,Nat.ble_eq];(try simp);omega)
theorem uV(x y:Int):Hg x y=(x==y):=by
 cases x<;>cases y<;>simp only [Hg]<;>(rw [qU];simp only [Bl,beq_iff_eq];(try simp);try omega)
theorem GP{j k:IntKind}(h:BN j k=true):j=k:=by cases j<;>cases k<;>first | rfl | (simp [BN]at h)
theorem YE(k:IntKind)(n:Int)(h0:k.min<=n)(h1:n<=k.max):k.wrap n=n:=by
 cases k<;>simp [IntKind.min,IntKind.max,IntKind.bits,IntKind.signed]at h0 h1<;>simp [IntKind.wrap,IntKind.bits,IntKind.signed]<;>omega
theorem PL(k:IntKind)(n:Int):lC k n=k.wrap n:=by
 have hb:∀m c:Nat,Nat.blt m c=true->m<c:=λm c h=>aW h;have e1:IntKind.i64.min= -9223372036854775808:=by decide
 have e2:IntKind.i64.max=9223372036854775807:=by decide
 have e3:IntKind.u64.min=0:=by decide
 have e4:IntKind.u64.max=18446744073709551615:=by decide
 have e5:IntKind.u8.min=0:=by decide
 have e6:IntKind.u8.max=255:=by decide
 cases k
 case i64=>
  cases n with
  | ofNat m=>
   unfold lC;dsimp only;split
   ·rename_i h;have:=hb _ _ h;exact(YE .i64 (m:Int) (by omega) (by omega)).symm
   ·rfl
  | negSucc m=>
   unfold lC;dsimp only;split
   ·rename_i h;have:=hb _ _ h;exact(YE .i64 (Int.negSucc m) (by omega) (by omega)).symm
   ·rfl
 case u64=>
  cases n with
  | ofNat m=>
   unfold lC;dsimp only;split
   ·rename_i h;have:=hb _ _ h;exact(YE .u64 (m:Int) (by omega) (by omega)).symm
   ·rfl
  | negSucc m=>rfl
 case u8=>
  cases n with
  | ofNat m=>
   unfold lC;dsimp only;split
   ·rename_i h;have:=hb _ _ h;exact(YE .u8 (m:Int) (by omega) (by omega)).symm
   ·rfl
  | negSucc m=>rfl
 all_goals rfl
theorem Th(k:IntKind)(n:Int):KD k n K=K (.int k (k.wrap n)):=by simp [KD,nG,PL]
theorem qE(b:Bool):nX b K=K (.bool b):=by simp [nX,oQ]
theorem Oe{op:BinOp}{k:IntKind}{x y:Int}(h:MM op k x y K=true):
 ∃v,K v=true/\bE v=true/\op≠ .shl/\op≠ .shr/\∀(P:Program) (t:TypeId) (w:World),(binOp op t (.int k x) (.int k y)).run P w= .ok v w:=by
 have ea:∀a b:Int,Int.add a b=a+b:=λ_ _=>rfl;have es:∀a b:Int,Int.sub a b=a-b:=λ_ _=>rfl;have em:∀a b:Int,Int.mul a b=a*b:=λ_ _=>rfl;cases op<;>simp only [MM,Th,qE,nG,GR,uV,ea,es,em]at h
 case quo=>
  split at h
  ·cases h
  ·rename_i hy
   have hy':y≠0:=by simpa using hy
   exact⟨_,h,rfl,by simp,by simp,λP t w=>by simp [binOp,Op.intDiv,hy']⟩
 case rem=>
  split at h
  ·cases h
  ·rename_i hy
   have hy':y≠0:=by simpa using hy
   exact⟨_,h,rfl,by simp,by simp,λP t w=>by simp [binOp,Op.intDiv,hy']⟩
 all_goals first
  | cases h;done
  | exact⟨_,h,rfl,by simp,by simp,λP t w=>by first | (simp [binOp,Op.intArith,Op.intBits,Op.intCmp,bne];done) | (simp [binOp,Op.intCmp];rw [qU];simp)⟩
theorem YF{op:BinOp}{k k':IntKind}{x y:Int}(h:UY op k x y K=true):
 ∃v,K v=true/\bE v=true/\∀(P:Program) (t:TypeId) (w:World),(binOp op t (.int k x) (.int k' y)).run P w= .ok v w:=by
 unfold UY at h;rw [GR]at h;split at h
 ·cases h
 ·rename_i hy
  have hy':¬y<0:=by simpa using hy
  cases op<;>simp only [Th,nG]at h<;>first
   | cases h;done
   | exact⟨_,h,rfl,λP t w=>by simp [binOp,Op.shift,hy']⟩
end
section
variable{K:Value->Bool}
theorem SG(a b:UInt8):Nat.beq a.toNat b.toNat=true↔a=b:=by
 rw [Bl];exact⟨λh=>UInt8.toNat_inj.1 h,λh=>by rw [h]⟩
theorem FJ(a b:List UInt8):Gj a b=(a==b):=by
 induction a generalizing b with
 | nil=>cases b<;>rfl
 | cons x a ih=>
  cases b with
  | nil=>rfl
  | cons y b=>
   show(match Nat.beq x.toNat y.toNat with | true=>Gj a b | false=>false)=_;cases h:Nat.beq x.toNat y.toNat with
   | true=>simp only [ih];have:=(SG x y).1 h;subst this;simp
   | false=>
    have:x≠y:=λe=>by rw [(SG x y).2 e]at h;cases h
    simp [this]
theorem aDI(a b:List UInt8):aEK a b=Op.bytesLess a b:=by
 induction a generalizing b with
 | nil=>cases b<;>rfl
 | cons x a ih=>
  cases b with
  | nil=>rfl
  | cons y b=>
   show(match Nat.blt x.toNat y.toNat with | true=>true | false=>match Nat.beq x.toNat y.toNat with | true=>aEK a b | false=>false)=_;simp only [Op.bytesLess];cases h:Nat.blt x.toNat y.toNat with
   | true=>
    have:x<y:=by rw [UInt8.lt_iff_toNat_lt];have:=aW h;omega
    simp [this]
   | false=>
    have:¬x<y:=by
     rw [UInt8.lt_iff_toNat_lt];intro hh;have:Nat.blt x.toNat y.toNat=true:=jT hh;rw [this]at h;cases h
    cases h2:Nat.beq x.toNat y.toNat with
    | true=>have e:=(SG x y).1 h2;subst e;simp [ih]
    | false=>
     have e:x≠y:=λe=>by rw [(SG x y).2 e]at h2;cases h2
     simp [this,e]
theorem aE0(a b:ByteArray):a++b=⟨⟨a.data.toList++b.data.toList⟩⟩:=by
 apply ByteArray.ext;apply iR.1;simp
theorem Of{op:BinOp}{x y:ByteArray}(h:Rx op x y K=true):
 ∃v,K v=true/\bE v=true/\∀(P:Program) (t:TypeId) (w:World),(binOp op t (.string x) (.string y)).run P w= .ok v w:=by
 cases op<;>simp only [Rx,qE,FJ,aDI]at h
 case add=>
  simp only [kM]at h;split at h
  ·rename_i hb
   rw [lE]at h;have hlt:x.size+y.size<9223372036854775808:=by have:=aW hb;have e1:x.size=x.data.toList.length:=rfl;have e2:y.size=y.data.toList.length:=rfl;omega
   refine⟨_,h,rfl,λP t w=>?_⟩;simp [binOp,Op.stringOp,aE0];omega
  ·cases h
 all_goals first
  | cases h;done
  | exact⟨_,h,rfl,λP t w=>by simp [binOp,Op.stringOp,Cc]⟩
end
theorem mB(b off n:Nat):(⟨b,off,none⟩:Addr).add n=⟨b,off+n,none⟩:=by
 unfold Addr.add;split
 ·rename_i h;subst h;rfl
 ·rfl
section
variable{P:Program}{w:World}
theorem run_loadCellsFrom(a:Addr):∀(m:List Value) (i:Nat) (acc:Array Value),(∀(j:Nat) (v:Value),m[j]? =some v->w.cell? (a.add (i+j))=some v)->
 (loadCellsFrom a i m.length acc).run P w= .ok (acc++m.toArray) w:=by
 intro m;induction m with
 | nil=>intro i acc _;simp [loadCellsFrom]
 | cons v m ih=>
  intro i acc h;have h0:=h 0 v rfl;rw [MJ]at h0
  have h1:=ih (i+1) (acc.push v) λj x hj=>by
   have:=h (j+1) x (by simpa using hj)
   rwa [show i+(j+1)=i+1+j by omega]at this
  simp [loadCellsFrom,h0,h1]
theorem run_loadCells(a:Addr)(m:List Value){n:Nat}(hn:m.length=n)(h:∀(j:Nat) (v:Value),m[j]? =some v->w.cell? (a.add j)=some v):
 (loadCells a n).run P w= .ok ⟨m⟩ w:=by
 subst hn;have:=run_loadCellsFrom (P:=P) a m 0 #[] (by simpa using h);simpa [loadCells]using this
theorem Zk{b off:Nat}{cs:Array Value}{t:TypeId}{fz:Nat×Nat}(h:w.heap[b]? =some (.cells cs t fz))(v:Value):
 w.setCell ⟨b,off,none⟩ v=w.putObj b (.cells (cs.setIfInBounds off v) t fz):=by
 unfold World.setCell World.putObj
 congr 1
 apply Az;intro k;rw [aBE,aBz];by_cases e:b=k
 ·subst e
  obtain⟨hlt,hb⟩:=nN.1 h;simp [hb,hlt]
 ·simp [e]
theorem Oh(b:Nat)(x y:Obj):(w.putObj b x).putObj b y=w.putObj b y:=by
 unfold World.putObj
 congr 1
 apply Az;intro k;simp only [aBz,aBA];by_cases e:b=k<;>simp [e]
theorem QI{b:Nat}{x:Obj}(h:w.heap[b]? =some x):w.putObj b x=w:=by
 unfold World.putObj
 have:w.heap.setIfInBounds b x=w.heap:=by
  apply Az;intro k;rw [aBz];by_cases e:b=k
  ·subst e
   obtain⟨hlt,hb⟩:=nN.1 h;simp [hb,hlt]
  ·simp [e]
 rw [this]
theorem mH{b:Nat}{x y:Obj}(h:w.heap[b]? =some y):(w.putObj b x).heap[b]? =some x:=World.putObj_heap_same (nN.1 h).1
theorem iA{b c:Nat}{x:Obj}(h:c≠b):(w.putObj b x).heap[c]? =w.heap[c]? :=World.putObj_heap_other h
theorem putObj_size(b:Nat)(x:Obj):(w.putObj b x).heap.size=w.heap.size:=by simp [World.putObj]
theorem iT:∀(new:List Value) (w:World) (b off i:Nat) (cs:Array Value) (t:TypeId) (fz:Nat×Nat),w.heap[b]? =some (.cells cs t fz)->off+i+new.length<=cs.size->
 (∀x,off+i<=x->x<off+i+new.length->¬(fz.1<=x/\x<fz.2))->(∀v∈new,v.oneCell'=true)->
 (storeCells ⟨b,off,none⟩ new i).run P w= .ok () (w.putObj b (.cells ⟨aE (off+i) new cs.toList⟩ t fz)):=by
 intro new;induction new with
 | nil=>
  intro w b off i cs t fz h hs _ _;have e:aE (off+i) [] cs.toList=cs.toList:=by simp [aE]
  rw [e];simp [storeCells,QI h]
 | cons v new ih=>
  intro w b off i cs t fz h hs hfz h1;have hlt:off+i<cs.size:=by simp at hs;omega
  have hc:w.cell? ⟨b,off+i,none⟩=some cs[off+i]:=by simp [World.cell?,h,hlt]
  have hf:w.frozen? ⟨b,off+i,none⟩=false:=by
   have:=hfz (off+i) (bI _) (by simp);simp only [World.frozen?,h];simpa using this
  have dF:(store (⟨b,off+i,none⟩:Addr) v).run P w= .ok () (w.putObj b (.cells (cs.setIfInBounds (off+i) v) t fz)):=by
   rw [run_store P w _ v .plain (h1 v (by simp)),hc,hf,Zk h];rfl
  have hih:=ih (w.putObj b (.cells (cs.setIfInBounds (off+i) v) t fz)) b off (i+1) (cs.setIfInBounds (off+i) v) t fz (mH h)
   (by simp at hs ⊢;omega) (λx hx hy=>hfz x (by omega) (by simp;omega)) (λu hu=>h1 u (by simp [hu]))
  have es:aE (off+(i+1)) new (cs.setIfInBounds (off+i) v).toList=aE (off+i) (v::new) cs.toList:=by
   apply uO;intro j;have hl:cs.toList.length=cs.size:=rfl;rw [fW _ _ _ (by simp at hs ⊢;omega),fW _ _ _ (by simp at hs ⊢;omega)];simp only [UM,qS];by_cases h2:j=off+i
   ·subst h2
    rw [if_neg (by omega),if_pos (by omega),Nat.sub_self];simp [hlt]
   ·by_cases h3:off+(i+1)<=j/\j<off+(i+1)+new.length
    ·rw [if_pos h3,if_pos (by omega)]
     obtain⟨q,rfl⟩:∃q,j=off+i+(q+1):=⟨j-(off+i+1),by omega⟩;rw [show off+i+(q+1)-(off+(i+1))=q by omega,show off+i+(q+1)-(off+i)=q+1 by omega];simp
    ·rw [if_neg h3,if_neg (by omega),UO (by omega)]
  simp only [storeCells,mB];rw [bY,dF,dU,hih,Oh,es]
end
section
variable{P:Program}{w0:World}{U:Rn}{S:St}{w:World}
theorem Rel.cells(h:Rel P w0 U S w){i:Nat}{vs:List Value}{e:TypeId}{k:CK}(ho:S.obj i=some (.cells vs e k)){L:Loc}(hL:U i=some L):
 ∃cs t fz,w.heap[L.b]? =some (.cells cs t fz)/\(∀(j:Nat) (v:Value),vs[j]? =some v->∃v',cs[L.s+j]? =some v'/\VR U v v')/\Ta P w0 L cs vs.length fz e t k:=by
 obtain⟨M,cs,t,fz,h1,h2,h3,h4⟩:=h.GO i _ ho;rw [hL]at h1;injection h1 with h1;subst h1;exact⟨cs,t,fz,h2,h3,h4⟩
theorem cell_of{b:Nat}{cs:Array Value}{t:TypeId}{fz:Nat×Nat}(h:w.heap[b]? =some (.cells cs t fz)){j:Nat}{v:Value}(hj:cs[j]? =some v):w.cell? ⟨b,j,none⟩=some v:=by
 simp [World.cell?,h,hj]
theorem Rel.yK(h:Rel P w0 U S w){i:Nat}{vs:List Value}{e:TypeId}{k:CK}(ho:S.obj i=some (.cells vs e k)){L:Loc}(hL:U i=some L){off n:Nat}(hn:off+n<=vs.length):
 ∃l',lD U ((vs.drop off).take n) l'/\l'.length=n/\∀(j:Nat) (v:Value),l'[j]? =some v->w.cell? ((⟨L.b,L.s+off,none⟩:Addr).add j)=some v:=by
 obtain⟨cs,t,fz,h2,h3,_⟩:=h.cells ho hL;refine⟨(List.range n).map λj=>cs.getD (L.s+(off+j)) undef,⟨by simp;omega,λj v v' a b=>?_⟩,by simp,λj v hj=>?_⟩
 ·rw [kR]at a
  split at a
  ·rename_i hj
   rw [kS]at a;obtain⟨u,hu,hr⟩:=h3 _ v a;simp [hj]at b;have:cs.getD (L.s+(off+j)) undef=u:=by simp [Rj,hu]
   simp [Rj]at this;rw [<-b,this];exact hr
  ·cases a
 ·have Ny:j<n:=by have:=(dS.1 hj).1;simpa using this
  simp [Ny]at hj;have hlt:off+j<vs.length:=by omega
  obtain⟨u,hu,_⟩:=h3 (off+j) vs[off+j] (aP hlt);rw [mB,show L.s+off+j=L.s+(off+j)by omega];rw [cell_of h2 hu]
  congr 1
  rw [<-hj];simp [hu]
theorem Rel.Kq(h:Rel P w0 U S w){i:Nat}{vs:List Value}{e:TypeId}{k:CK}(ho:S.obj i=some (.cells vs e k)){L:Loc}(hL:U i=some L){o:Nat}{v:Value}(hv:vs[o]? =some v):
 ∃v',w.cell? ⟨L.b,L.s+o,none⟩=some v'/\VR U v v':=by
 obtain⟨cs,t,fz,h2,h3,_⟩:=h.cells ho hL;obtain⟨u,hu,hr⟩:=h3 o v hv;exact⟨u,cell_of h2 hu,hr⟩
theorem GL{t:TypeId}{b:Bool}(h:uR P t=some b)(w:World):(isAgg t).run P w= .ok b w:=by
 unfold uR at h;cases hu:P.underlying t with
 | none=>simp [hu]at h
 | some d=>
  simp [hu]at h;simp only [isAgg,bY,run_underlying hu,dU];subst h;cases d<;>rfl
theorem gS{t:TypeId}{n:Nat}(h:bP P t=some n)(w:World):(sizeOf t).run P w= .ok n w:=by
 unfold bP at h;cases hu:P.info? t with
 | none=>simp [hu]at h
 | some i=>simp [hu]at h;simp [sizeOf,typeInfo,hu,h]
theorem aGv{t:TypeId}{i:TypeInfo}(h:P.info? t=some i)(w:World):(typeInfo t).run P w= .ok i w:=by simp [typeInfo,h]
theorem BQ{t:TypeId}{z:List Value}(h:tX P t=some z)(w:World):∃v,(zeroValue t).run P w= .ok v w/\v.cells.toList=z:=by
 unfold tX at h;cases hu:P.info? t with
 | none=>simp [hu]at h
 | some i=>
  cases hz:i.zero with
  | none=>simp [hu,hz]at h
  | some v=>simp [hu,hz]at h;exact⟨v,by simp [zeroValue,typeInfo,hu,hz],h⟩
theorem PW(h:Rel P w0 U S w){t:TypeId}{a a':Value}{K:VK}(hk:KU P t a S K=true)(ha:VR U a a'):
 ∃v v',K v S=true/\VR U v v'/\(Instr.loadAt t a').run P w= .ok v' w:=by
 unfold KU at hk;split at hk
 ·rename_i i o
  cases ha with
  | flat h=>simp [bE]at h
  | ptr hL=>
   rename_i L;split at hk
   ·rename_i aBN
    obtain⟨vs,e,c,ho,hk⟩:=uZ hk;obtain⟨v,hv,hk⟩:=LA hk;obtain⟨v',hc,hr⟩:=h.Kq ho hL hv;refine⟨v,v',hk,hr,?_⟩;simp [Instr.loadAt,Instr.sureAddr,loadVar,GL aBN,hc]
   ·rename_i aBN
    split at hk
    ·rename_i n hsz
     obtain⟨vs,e,c,ho,hn,hk⟩:=sL hk;obtain⟨l',hr,hl,hc⟩:=h.yK ho hL hn;refine⟨_,.agg ⟨l'⟩,hk,.Sd hr,?_⟩;simp [Instr.loadAt,Instr.sureAddr,loadVar,GL aBN,gS hsz,run_loadCells _ l' hl hc]
    ·cases hk
   ·cases hk
 ·cases hk
end
section
variable{P:Program}{w0:World}{U:Rn}{S:St}{w:World}
theorem Pt:∀{new l:List Value},Bn new l=true->(∀v∈new,bE v=true)/\∀(j:Nat) (v:Value),new[j]? =some v->l[j]? =some v:=by
 intro new;induction new with
 | nil=>intro l _;exact⟨by simp,by simp⟩
 | cons a new ih=>
  intro l h;unfold Bn at h;rw [aS]at h;cases l with
  | nil=>cases h
  | cons b t=>
   have h2:(match(generalizing:=false) a,b with
    | .int j x,.int k y=>match BN j k with
     | true=>match Hg x y with | true=>Bn new t | false=>false
     | false=>false
    | _,_=>false)=true:=h
   split at h2
   ·split at h2
    ·rename_i hk
     split at h2
     ·rename_i hx
      have e1:=GP hk;rw [uV]at hx;have e2:=eq_of_beq hx;subst e1 e2;have h:Bn new t=true:=h2;obtain⟨i1,i2⟩:=ih h;refine⟨λv hv=>?_,λj v hj=>?_⟩
      ·rcases dA.1 hv with e | hv
       ·subst e;rfl
       ·exact i1 v hv
      ·cases j with
       | zero=>simpa using hj
       | succ j=>simpa using i2 j v (by simpa using hj)
     ·cases h2
    ·cases h2
   ·cases h2
theorem vQ(h:Rel P w0 U S w){i off:Nat}{new new':List Value}{k:St->Bool}(hk:pW S i off new k=true){L:Loc}(hL:U i=some L)
 (hn:lD U new new') (h1:∀v∈new',v.oneCell'=true):
 ∃S' w',k S'=true/\Rel P w0 U S' w'/\uI U w U w'/\(storeCells ⟨L.b,L.s+off,none⟩ new').run P w= .ok () w':=by
 obtain⟨vs,e,c,ho,hk⟩:=uZ hk;obtain⟨cs,t,fz,hb,hcell,pQ⟩:=h.cells ho hL
 have key:∀(S':St) (kd:CK) (olds:List Nat),S'.n=S.n->(∀j,S'.obj j=if j=i then some (.cells (aE off new vs) e kd)else if j∈olds then some .dead else S.obj j)->
  off+new.length<=vs.length->w0.heap.size<=L.b->Bv cs.size fz->(iP.cells vs e c).reads=false->(∀l,kd= .grown l->l=[])->(iP.cells vs e c).olds=olds->(iP.cells (aE off new vs) e kd).reads=false->
  (∀j∈olds,j<S.n)->
  (∀cs':Array Value,cs'.size=cs.size->Ta P w0 L cs' vs.length fz e t kd)->
  Rel P w0 U S' (w.putObj L.b (.cells ⟨aE (L.s+off) new' cs.toList⟩ t fz))/\uI U w U (w.putObj L.b (.cells ⟨aE (L.s+off) new' cs.toList⟩ t fz))/\
   (storeCells ⟨L.b,L.s+off,none⟩ new').run P w= .ok () (w.putObj L.b (.cells ⟨aE (L.s+off) new' cs.toList⟩ t fz)):=by
  intro S' kd olds hSn pM hlen hB hth QK hkd holds aPL aMs hKR
  have XC:∀j,j<vs.length->L.s+j<cs.size:=λj hj=>by
   obtain⟨v',FG,_⟩:=hcell j vs[j] (aP hj);exact(nN.1 FG).1
  have OO:new.length=0\/L.s+off+new'.length<=cs.size:=by
   rcases MH new.length with hz | hz
   ·exact .inl hz
   ·right
    have:=XC (off+new.length-1) (by omega);rw [<-hn.1];omega
  have xV:cs.toList.length=cs.size:=rfl
  have hsz:(⟨aE (L.s+off) new' cs.toList⟩:Array Value).size=cs.size:=by
   rcases OO with hz | hz
   ·have:new'=[]:=mS (by rw [<-hn.1];exact hz)
    subst this;simp [aE]
   ·show(aE (L.s+off) new' cs.toList).length=_
    rw [kY _ _ _ (by omega)];exact xV
  have Gn:∀j:Nat,(⟨aE (L.s+off) new' cs.toList⟩:Array Value)[j]? =if L.s+off<=j/\j<L.s+off+new'.length then new'[j-(L.s+off)]? else cs[j]? :=by
   intro j;rcases OO with hz | hz
   ·have:new'=[]:=mS (by rw [<-hn.1];exact hz)
    subst this;rw [if_neg (by simp)];simp [aE]
   ·have:=fW (L.s+off) new' cs.toList (by omega) j
    simpa using this
  have XO:BR P w0 U (w.putObj L.b (.cells ⟨aE (L.s+off) new' cs.toList⟩ t fz)) i (.cells (aE off new vs) e kd):=by
   refine⟨L,_,t,fz,hL,mH hb,λj v hj=>?_,by rw [kY _ _ _ hlen];exact hKR _ hsz⟩;rw [fW _ _ _ hlen]at hj;rw [Gn];split at hj
   ·rename_i hr
    rw [if_pos (by have:=hn.1;omega)];obtain⟨v',FG,hr'⟩:=hn.get hj;exact⟨v',by rw [show L.s+j-(L.s+off)=j-off by omega];exact FG,hr'⟩
   ·rename_i hr
    rw [if_neg (by have:=hn.1;omega)];exact hcell j v hj
  have aB4:∀j x M,j≠i->j∉olds->S.obj j=some x->x.xY=false->U j=some M->M.b≠L.b:=by
   intro j x M hj hjo hx hd hM TU;rcases h.sep i j _ x L M (dB hj) ho hx rfl hd hL hM TU.symm with ⟨hr,_⟩ | hs | hs
   ·rw [QK]at hr;cases hr
   ·rw [holds]at hs;exact hjo hs
   ·cases x with
    | cells ws e' kk=>
     cases kk with
     | grown l=>
      obtain⟨_,h2⟩:=h.old j ws e' l hx i hs;rcases h2 _ ho with h3 | ⟨_,_,h3,_⟩
      ·cases h3
      ·injection h3 with _ _ h3;subst h3;simp [iP.reads]at QK
     | _=>simp [iP.olds]at hs
    | _=>simp [iP.olds]at hs
  have zU:∀j x,S'.obj j=some x->(j=i/\x= .cells (aE off new vs) e kd)\/(j≠i/\j∈olds/\x= .dead)\/(j≠i/\j∉olds/\S.obj j=some x):=by
   intro j x hx;rw [pM]at hx;by_cases e1:j=i
   ·rw [if_pos e1]at hx;injection hx with hx;exact .inl ⟨e1,hx.symm⟩
   ·rw [if_neg e1]at hx
    by_cases e2:j∈olds
    ·rw [if_pos e2]at hx;injection hx with hx;exact .inr (.inl ⟨e1,e2,hx.symm⟩)
    ·rw [if_neg e2]at hx;exact .inr (.inr ⟨e1,e2,hx⟩)
  have hrel:=h.aM (S':=S') (w':=w.putObj L.b (.cells ⟨aE (L.s+off) new' cs.toList⟩ t fz)) (b:=L.b) hB ⟨i,L,hL,rfl⟩ hSn (putObj_size _ _) (λc hc=>iA hc) rfl rfl rfl
   (λj x hx=>by
    rcases zU j x hx with ⟨e1,e2⟩ | ⟨e1,e2,e3⟩ | ⟨e1,e2,Eh⟩
    ·subst e1 e2;exact .inr (.inr ⟨h.lt _ _ ho,XO⟩)
    ·subst e3;exact .inl ⟨rfl,aMs _ e2⟩
    ·cases hd:x.xY with
     | true=>exact .inl ⟨rfl,h.lt _ _ Eh⟩
     | false=>exact .inr (.inl ⟨Eh,λM hM=>aB4 j x M e1 e2 Eh hd hM⟩))
   (λp q x y M N hpq hx hy hdx hdy hM hN Gk=>by
    rcases zU p x hx with ⟨e1,e2⟩ | ⟨_,_,e3⟩ | ⟨e1,e2,Eh⟩
    ·rcases zU q y hy with ⟨f1,_⟩ | ⟨_,_,f3⟩ | ⟨f1,f2,hy'⟩
     ·exact absurd (e1.trans f1.symm) hpq
     ·subst f3;cases hdy
     ·subst e1;rw [hL]at hM;injection hM with hM;subst hM
      exact absurd Gk.symm (aB4 q y N f1 f2 hy' hdy hN)
    ·subst e3;cases hdx
    ·rcases zU q y hy with ⟨f1,_⟩ | ⟨_,_,f3⟩ | ⟨f1,f2,hy'⟩
     ·subst f1;rw [hL]at hN;injection hN with hN;subst hN
      exact absurd Gk (aB4 p x M e1 e2 Eh hdx hM)
     ·subst f3;cases hdy
     ·exact h.sep p q x y M N hpq Eh hy' hdx hdy hM hN Gk)
   (λj ws e' l hj q hq=>by
    rcases zU j _ hj with ⟨e1,e2⟩ | ⟨_,_,e3⟩ | ⟨e1,e2,Ny⟩
    ·injection e2 with _ _ e2
     have:=hkd l e2.symm;subst this;cases hq
    ·cases e3
    ·obtain⟨g1,g2⟩:=h.old j ws e' l Ny q hq
     refine⟨g1,λo hqo=>?_⟩;rcases zU q o hqo with ⟨f1,f2⟩ | ⟨_,_,f3⟩ | ⟨_,_,hq'⟩
     ·subst f1
      rcases g2 _ ho with g3 | ⟨_,_,g3,_⟩
      ·cases g3
      ·injection g3 with _ _ g3;subst g3;simp [iP.reads]at QK
     ·exact .inl f3
     ·exact g2 o hq')
  refine⟨hrel.1,hrel.2,?_⟩;rcases OO with hz | hz
  ·have:new'=[]:=mS (by rw [<-hn.1];exact hz)
   subst this;have e1:aE (L.s+off) [] cs.toList=cs.toList:=by simp [aE]
   rw [e1,QI hb];simp [storeCells]
  ·have:=iT (P:=P) new' w L.b (L.s+off) 0 cs t fz hb (by omega) (λx hx hy=>hth x (by omega)) h1
   simpa using this
 have aOx:Bn new (vs.drop off)=true->k S=true->(∀j,j<vs.length->¬(fz.1<=L.s+j/\L.s+j<fz.2))->
  ∃S' w',k S'=true/\Rel P w0 U S' w'/\uI U w U w'/\(storeCells ⟨L.b,L.s+off,none⟩ new').run P w= .ok () w':=by
  intro hs tZ hth;obtain⟨s1,s2⟩:=Pt hs
  have hnn:new'=new:=by
   apply uO;intro j;cases hj:new[j]? with
   | none=>exact hn.get_none hj
   | some v=>
    obtain⟨v',FG,hr⟩:=hn.get hj;rw [FG,hr.of_flat (s1 v (wI hj))]
  subst hnn
  have VT:∀j v,new'[j]? =some v->cs[L.s+off+j]? =some v:=λj v hj=>by
   obtain⟨v',FG,hr⟩:=hcell (off+j) v (by have:=s2 j v hj;rw [kS]at this;exact this);rw [<-uQ]at FG;rw [FG,hr.of_flat (s1 v (wI hj))]
  have aP4:∀j,j<new'.length->off+j<vs.length:=λj hj=>by
   have:=s2 j new'[j] (aP hj);rw [kS]at this;exact(dS.1 this).1
  rcases MH new'.length with hz | hz
  ·have:new'=[]:=mS hz
   subst this;exact⟨S,w,tZ,h,.refl U w,by simp [storeCells]⟩
  ·have hle:L.s+off+new'.length<=cs.size:=by
    have:=VT (new'.length-1) _ (aP (by omega));have:=(nN.1 this).1;omega
   have dF:=iT (P:=P) new' w L.b (L.s+off) 0 cs t fz hb (by omega) (λx hx hy=>by
    have:=hth (x-L.s) (by have:=aP4 (x-L.s-off) (by omega);omega)
    rwa [show L.s+(x-L.s)=x by omega]at this) h1
   have CW:aE (L.s+off) new' cs.toList=cs.toList:=by
    apply uO;intro j;rw [fW _ _ _ (by simpa using hle)];split
    ·rename_i hj
     rw [aP (by omega)];have:=VT (j-(L.s+off)) _ (aP (by omega));rw [show L.s+off+(j-(L.s+off))=j by omega]at this;simpa using this.symm
    ·rfl
   refine⟨S,w,tZ,h,.refl U w,?_⟩;have e:w.putObj L.b (.cells ⟨aE (L.s+off) new' cs.toList⟩ t fz)=w:=by rw [CW];exact QI hb
   simpa [e]using dF
 cases c with
 | exact=>
  simp only [xW]at hk;split at hk
  ·rename_i hlen
   rw [gR]at hk;obtain⟨g1,g2,g3,g4⟩:=pQ
   obtain⟨r1,r2,r3⟩:=key (S.set i (.cells (aE off new vs) e .exact)) .exact [] rfl (λj=>by rw [CM];simp) hlen g1 g4.1.to rfl (by simp) rfl rfl (by simp)
    (λcs' aJ1=>⟨g1,g2,by omega,by rw [aJ1];exact g4⟩)
   exact⟨_,_,hk,r1,r2,r3⟩
  ·cases hk
 | grown olds=>
  have tZ:(IM off vs λl=>match Bn new l with | true=>k S | false=>rF off new vs λvs=>Pc olds S.h λh=>SY (.cells vs e (.grown [])) (Nat.succ i) h i λh=>k ⟨h,S.n⟩)=true:=hk;clear hk;rw [zT]at tZ;split at tZ
  ·cases hs:Bn new (vs.drop off)with
   | true=>
    rw [hs]at tZ;obtain⟨g1,g2,g3,g4⟩:=pQ;refine aOx hs tZ λj hj=>g2 _ ?_;obtain⟨v',FG,_⟩:=hcell j _ (aP hj);exact(nN.1 FG).1
   | false=>
    rw [hs]at tZ;have hk:=tZ;clear tZ;simp only [xW]at hk;split at hk
    ·rename_i hlen
     rw [Yd,MR]at hk;obtain⟨g1,g2,g3,g4⟩:=pQ
     obtain⟨r1,r2,r3⟩:=key ⟨Tr.FE (iP.cells (aE off new vs) e (CK.grown [])) i.succ (olds.foldl (λh i=>h.put i iP.dead) S.h) i,S.n⟩ (.grown []) olds rfl (λj=>by
      show Tr.get (Tr.FE _ (i+1) _ i) j=_;rw [Jt _ _ _ _ _ (xS i),Ye];rfl) hlen g1 g2 rfl (λl hl=>by injection hl with hl;exact hl.symm) rfl rfl
      (λj hj=>(h.old i vs e olds ho j hj).1) (λcs' aJ1=>⟨g1,by rw [aJ1];exact g2,by rw [aJ1];exact g3,g4⟩)
     exact⟨_,_,hk,r1,r2,r3⟩
    ·cases hk
  ·cases tZ
 | rs=>
  have tZ:(IM off vs λl=>match Bn new l with | true=>k S | false=>false)=true:=hk;rw [zT]at tZ;split at tZ
  ·cases hs:Bn new (vs.drop off)with
   | true=>rw [hs]at tZ;exact aOx hs tZ pQ.2
   | false=>rw [hs]at tZ;cases tZ
  ·cases tZ
 | sA=>cases hk
 | ro=>cases hk
theorem CJ{v:Value}{k:List Value->Bool}(hk:oW v k=true){v':Value}(hv:VR U v v'):
 ∃cs,k cs=true/\(∀x∈cs,gH x=true)/\lD U cs v'.cells.toList/\cs=v.cells.toList:=by
 unfold oW at hk;split at hk
 ·rename_i cs
  rw [jZ]at hk;split at hk
  ·rename_i ha
   obtain⟨a',rfl,hl⟩:=hv.IN;exact⟨_,hk,dJ.1 ha,hl,rfl⟩
  ·cases hk
 ·cases hk
 ·rename_i h1 h2
  have hc:v.cells= #[v]:=by cases v<;>first | rfl | exact absurd rfl (h1 _)
  have ho:gH v=true:=by cases v<;>first | rfl | exact absurd rfl (h1 _) | exact absurd rfl (h2 _)
  have hc':v'.cells= #[v']:=by have:=hv.gH ho;cases v'<;>first | rfl | (simp [Value.oneCell']at this)
  exact⟨_,hk,by simpa using ho,by rw [hc'];exact .cons hv (.nil U),by rw [hc]⟩
theorem LE{l l':List Value}(h:lD U l l')(h1:∀x∈l,gH x=true):∀v∈l',v.oneCell'=true:=by
 intro v hv;obtain⟨j,hj⟩:=GI hv;have hlt:j<l.length:=by rw [h.1];exact(dS.1 hj).1
 exact(h.2 j l[j] v (aP hlt) hj).gH (h1 _ (nO _))
theorem Su(h:Rel P w0 U S w){t:TypeId}{a a' x x':Value}{k:St->Bool}(hk:UZ P t a x S k=true)(ha:VR U a a')(hx:VR U x x'):
 ∃S' w',k S'=true/\Rel P w0 U S' w'/\uI U w U w'/\(Instr.storeAt t a' x').run P w= .ok () w':=by
 unfold UZ at hk;split at hk
 ·rename_i i o
  cases ha with
  | flat h=>simp [bE]at h
  | ptr hL=>
   rename_i L;split at hk
   ·rename_i n hsz
    obtain⟨cs,hk,h1,xV,_⟩:=CJ hk hx;rw [kM]at hk;split at hk
    ·rename_i hn
     have hn':cs.length=n:=cT hn;obtain⟨S',w',wU,r1,r2,r3⟩:=vQ h hk hL xV (LE xV h1);refine⟨S',w',wU,r1,r2,?_⟩;have Zl:x'.cells.size=n:=by rw [<-hn',xV.1];rfl
     simp [Instr.storeAt,Instr.sureAddr,storeVar,gS hsz,Zl,r3]
    ·cases hk
   ·cases hk
 ·cases hk
theorem Rel.aGu(h:Rel P w0 U S w){cs cs':List Value}(xV:lD U cs cs')(t:TypeId)(m:Nat):
 Rel P w0 (U.put S.n ⟨w.heap.size,0,cs'.length,m⟩) (S.new (.cells cs t .exact)) (w.alloc (.cells ⟨cs'⟩ t))/\uI U w (U.put S.n ⟨w.heap.size,0,cs'.length,m⟩) (w.alloc (.cells ⟨cs'⟩ t)):=by
 refine h.new _ _ _ rfl (λU' he hU'=>⟨_,⟨cs'⟩,t,(0,0),hU',?_,λj v hj=>?_,?_⟩) (by simp [iP.olds])
 ·show(w.heap.push _)[w.heap.size]? =_;simp
 ·obtain⟨v',FG,hr⟩:=xV.get hj
  exact⟨v',by simpa using FG,hr.mono he⟩
 ·exact⟨h.base.size,rfl,xV.1.symm,λx _ hx=>by simp at hx,rfl⟩
theorem Rel.Xs(h:Rel P w0 U S w){cs cs' more:List Value}(xV:lD U cs cs')(e:TypeId){m:Nat}(hm:bP P e=some m)(fz:Nat×Nat)(hfz:Bv (cs'++more).length fz)(olds:List Nat)
 (hold:∀i∈olds,i<S.n/\∀x,S.obj i=some x->x= .dead\/∃ws e,x= .cells ws e .sA):
 Rel P w0 (U.put S.n ⟨w.heap.size,0,(cs'++more).length,m⟩) (S.new (.cells cs e (.grown olds))) (w.alloc (.cells ⟨cs'++more⟩ e fz))/\uI U w (U.put S.n ⟨w.heap.size,0,(cs'++more).length,m⟩) (w.alloc (.cells ⟨cs'++more⟩ e fz)):=by
 refine h.new _ _ _ rfl (λU' he hU'=>⟨_,⟨cs'++more⟩,e,fz,hU',?_,λj v hj=>?_,?_⟩) hold
 ·show(w.heap.push _)[w.heap.size]? =_;simp
 ·obtain⟨v',FG,hr⟩:=xV.get hj
  refine⟨v',?_,hr.mono he⟩;have hlt:j<cs'.length:=(dS.1 FG).1;have e1:(⟨cs'++more⟩:Array Value)[0+j]? =(cs'++more)[j]? :=by simp
  exact e1.trans (by rw [fB hlt];exact FG)
 ·exact⟨h.base.size,hfz,rfl,hm,rfl⟩
end
section
variable{P:Program}{w0:World}{U:Rn}{S:St}{w:World}
structure xX(P:Program)(U:Rn)(A:aO)(a:Act):Prop where
 tmps:Yh U A.tmps a.tmps.toList
 g:A.g=P.globals.size
theorem aK(h:Rel P w0 U S w){A:aO}{a:Act}(hA:xX P U A a){x:Operand}{k:Value->Bool}(hk:tC A x k=true):∃v,k v=true/\VR U v (a.eval x):=by
 obtain⟨v,hv,h1⟩:=aGC hk;refine⟨v,hv,?_⟩;rcases h1 with ⟨t,rfl,ht⟩ | ⟨rfl,hf⟩ | ⟨g,rfl,hg,rfl⟩ | ⟨f,rfl,rfl⟩
 ·obtain⟨v',FG,hr⟩:=hA.tmps.get ht
  have e:a.tmps.getD t undef=v':=by
   rw [Ir]at FG;simp [Rj,FG]
  show VR U v (a.tmps.getD t undef);rw [e];exact hr
 ·exact .jV hf
 ·obtain⟨L,h1,h2,h3⟩:=h.Gl g (by rw [<-hA.g];exact hg)
  have:=VR.ptr (o:=0) h1;rw [h2,h3]at this;exact this
 ·exact .func rfl rfl (by simp) (by simp)
theorem yA(h:Rel P w0 U S w){A:aO}{a:Act}(hA:xX P U A a):∀{xs:List Operand} {k:List Value->Bool},PG A xs k=true->∃vs,k vs=true/\lD U vs (xs.map a.eval):=by
 intro xs;induction xs with
 | nil=>intro k hk;exact⟨[],hk,.nil U⟩
 | cons x xs ih=>
  intro k hk;obtain⟨v,hv,hr⟩:=aK h hA (show tC A x (λv=>PG A xs λvs=>k (v::vs))=true from hk);obtain⟨vs,GU,hrs⟩:=ih hv;exact⟨v::vs,GU,.cons hr hrs⟩
theorem BU(h:Rel P w0 U S w){A:aO}{a:Act}(hA:xX P U A a){x:Option Operand}{k:Option Value->Bool}(hk:VC A x k=true):
 ∃v,k v=true/\(v=none/\x=none\/∃u y,v=some u/\x=some y/\VR U u (a.eval y)):=by
 cases x with
 | none=>exact⟨none,hk,.inl ⟨rfl,rfl⟩⟩
 | some x=>obtain⟨v,hv,hr⟩:=aK h hA (show tC A x (λv=>k (some v))=true from hk);exact⟨some v,hv,.inr ⟨v,x,rfl,rfl,hr⟩⟩
theorem Yf{A:aO}{a:Act}(hA:xX P U A a){d:Option Tmp}{v v':Value}(hv:VR U v v'){k:aO->Bool}(hk:mA A d v k=true):
 ∃A',k A'=true/\xX P U A' (a.put d v')/\A'.marks=A.marks:=by
 cases d with
 | none=>exact⟨A,hk,hA,rfl⟩
 | some d=>
  obtain⟨hd,hk⟩:=BT (show sB v A.tmps d (λts=>k ⟨ts,A.marks,A.g⟩)=true from hk);exact⟨_,hk,⟨by simpa [Act.put]using hA.tmps.set hd hv,hA.g⟩,rfl⟩
theorem xX.mono{U':Rn}(he:Ext U U'){A:aO}{a:Act}(h:xX P U A a):xX P U' A a:=⟨h.tmps.mono he,h.g⟩
theorem Oi{t:TypeId}{a b a' b':Value}{k:Bool->Bool}(hk:tY P t a b k=true)(ha:VR U a a')(hb:VR U b b'):
 ∃e,k e=true/\bE a=true/\bE b=true/\qV P t=true/\∀(d:Nat) (w:World),(Op.equalIn (d+1) t a' b').run P w= .ok e w:=by
 unfold tY at hk;split at hk
 ·rename_i kd hu
  split at hk
  ·rename_i j x l y
   split at hk
   ·rename_i hj
    rw [oQ,uV]at hk;have:=GP hj;subst this;rw [ha.of_flat rfl,hb.of_flat rfl];exact⟨_,hk,rfl,rfl,by simp [qV,hu],λd w=>run_equalIn_int w d t j kd x y hu⟩
   ·cases hk
  ·cases hk
 ·rename_i hu
  split at hk
  ·rename_i x y
   rw [oQ,FJ,<-Cc,<-Cc]at hk;rw [ha.of_flat rfl,hb.of_flat rfl];exact⟨_,hk,rfl,rfl,by simp [qV,hu],λd w=>run_equalIn_string w d t x y hu⟩
  ·cases hk
 ·rename_i hu
  split at hk
  ·rename_i x y
   rw [oQ]at hk;rw [ha.of_flat rfl,hb.of_flat rfl];exact⟨_,hk,rfl,rfl,by simp [qV,hu],λd w=>run_equalIn_bool' w d t x y hu⟩
  ·cases hk
 ·cases hk
theorem aB5{t:TypeId}(h:qV P t=true):uR P t=some false:=by
 unfold qV at h;unfold uR;split at h<;>rename_i hu<;>first | (rw [hu];rfl) | cases h
theorem PO{t:TypeId}(h:qV P t=true){cs:Array Value}{off:Nat}{v:Value}(hv:cs.toList[off]? =some v)(w:World):(part t cs off).run P w= .ok v w:=by
 rw [Ir]at hv;simp [part,GL (aB5 h),hv]
theorem Ku:∀(fs:List Field) (i:Nat) (a b:List Value) (X Y:Array Value) (k:Bool->Bool),uT P i fs=true->KW P fs a b k=true->
 lD U a (X.toList.drop i)->lD U b (Y.toList.drop i)->∃e,k e=true/\∀(d:Nat) (w:World),(Op.eqFields (d+1) X Y fs).run P w= .ok e w:=by
 intro fs;induction fs with
 | nil=>intro i a b X Y k _ hk _ _;exact⟨true,hk,λd w=>rfl⟩
 | cons f fs ih=>
  intro i a b X Y k hp hk ha hb;simp only [uT,bW,beq_iff_eq,bne_iff_ne]at hp;obtain⟨⟨⟨aDB,aEM⟩,rY⟩,uX⟩:=hp;cases a with
  | nil=>cases hk
  | cons x a=>
   cases b with
   | nil=>cases hk
   | cons y b=>
    have wU:tY P f.type x y (λe=>match e with | true=>KW P fs a b k | false=>k false)=true:=hk;obtain⟨x',tx,ex,hx,htx⟩:=ha.cC;obtain⟨y',ty,ey,hy,hty⟩:=hb.cC;obtain⟨e,he,_,_,_,dF⟩:=Oi wU hx hy;have gx:X.toList[i]? =some x':=by have:=lT (·[0]?) ex;simpa [kS]using this
    have gy:Y.toList[i]? =some y':=by have:=lT (·[0]?) ey;simpa [kS]using this
    have dx:X.toList.drop (i+1)=tx:=by have:=lT List.tail ex;simpa [List.tail_drop]using this
    have dy:Y.toList.drop (i+1)=ty:=by have:=lT List.tail ey;simpa [List.tail_drop]using this
    cases e with
    | false=>
     refine⟨false,he,λd w=>?_⟩;simp [Op.eqFields,aDB,aEM,PO rY gx,PO rY gy,dF]
    | true=>
     obtain⟨e,he,hr⟩:=ih (i+1) a b X Y k uX he (by rw [dx];exact htx) (by rw [dy];exact hty);refine⟨e,he,λd w=>?_⟩;simp [Op.eqFields,aDB,aEM,PO rY gx,PO rY gy,dF,hr]
theorem CY{t:TypeId}{fs:List Field}(h:MO P t=some fs):P.underlying t=some (.struct (P.fieldsOf t))/\(P.fieldsOf t).toList=fs/\uT P 0 fs=true/\P.stoodInHeld t=false/\P.eqGuardType P.depth t=false:=by
 unfold MO at h;split at h
 ·rename_i gs hu
  split at h
  ·rename_i hc
   injection h with h;simp only [bW,xR]at hc;have e:P.fieldsOf t=gs:=by simp [Program.fieldsOf,hu]
   rw [e];exact⟨hu,h,by rw [<-h];exact hc.1.1,hc.1.2,hc.2⟩
  ·cases h
 ·cases h
section
variable(w:World)(d:Nat){t:TypeId}
theorem aP6{e:TypeId}(h:P.underlying t=some (.pointer e))(a:Addr):(Op.equalIn (d+1) t (.pointer (some a)) (.pointer none)).run P w= .ok false w:=by simp [Op.equalIn,run_underlying h]
theorem aP7{e:TypeId}(h:P.underlying t=some (.pointer e))(a:Addr):(Op.equalIn (d+1) t (.pointer none) (.pointer (some a))).run P w= .ok false w:=by simp [Op.equalIn,run_underlying h]
theorem aP8{e:TypeId}(h:P.underlying t=some (.pointer e)):(Op.equalIn (d+1) t (.pointer none) (.pointer none)).run P w= .ok true w:=by simp [Op.equalIn,run_underlying h]
theorem aP9{e:TypeId}(h:P.underlying t=some (.slice e))(a:Addr)(n c m q:Nat):(Op.equalIn (d+1) t (.slice (some a) n c) (.slice none m q)).run P w= .ok false w:=by simp [Op.equalIn,run_underlying h]
theorem aQa{e:TypeId}(h:P.underlying t=some (.slice e))(a:Addr)(n c m q:Nat):(Op.equalIn (d+1) t (.slice none m q) (.slice (some a) n c)).run P w= .ok false w:=by simp [Op.equalIn,run_underlying h]
theorem aQb{e:TypeId}(h:P.underlying t=some (.slice e))(n c m q:Nat):(Op.equalIn (d+1) t (.slice none m q) (.slice none n c)).run P w= .ok true w:=by simp [Op.equalIn,run_underlying h]
theorem aQc{e f:TypeId}(h:P.underlying t=some (.map e f))(a:Nat):(Op.equalIn (d+1) t (.map (some a)) (.map none)).run P w= .ok false w:=by simp [Op.equalIn,run_underlying h]
theorem aQd{e f:TypeId}(h:P.underlying t=some (.map e f))(a:Nat):(Op.equalIn (d+1) t (.map none) (.map (some a))).run P w= .ok false w:=by simp [Op.equalIn,run_underlying h]
theorem aQe{e f:TypeId}(h:P.underlying t=some (.map e f)):(Op.equalIn (d+1) t (.map none) (.map none)).run P w= .ok true w:=by simp [Op.equalIn,run_underlying h]
theorem aOy{e f:Array TypeId}{v:Bool}(h:P.underlying t=some (.func e f v))(a:Fn)(x y:Array Value):(Op.equalIn (d+1) t (.func a x y) .nilFunc).run P w= .ok false w:=by simp [Op.equalIn,run_underlying h]
theorem aOz{e f:Array TypeId}{v:Bool}(h:P.underlying t=some (.func e f v))(a:Fn)(x y:Array Value):(Op.equalIn (d+1) t .nilFunc (.func a x y)).run P w= .ok false w:=by simp [Op.equalIn,run_underlying h]
theorem aOA{e f:Array TypeId}{v:Bool}(h:P.underlying t=some (.func e f v)):(Op.equalIn (d+1) t .nilFunc .nilFunc).run P w= .ok true w:=by simp [Op.equalIn,run_underlying h]
theorem aOB{m:Array (String×TypeId)}(h:P.underlying t=some (.interface m))(u:TypeId)(x:Value):(Op.equalIn (d+1) t (.iface u x) .nilIface).run P w= .ok false w:=by simp [Op.equalIn,run_underlying h]
theorem aOC{m:Array (String×TypeId)}(h:P.underlying t=some (.interface m))(u:TypeId)(x:Value):(Op.equalIn (d+1) t .nilIface (.iface u x)).run P w= .ok false w:=by simp [Op.equalIn,run_underlying h]
end
def aQf:Value->Value->Prop
 | .pointer (some _),v'=>∃a,v'= .pointer (some a)
 | .slice (some _) _ _,v'=>∃a:Addr×Nat×Nat,v'= .slice (some a.1) a.2.1 a.2.2
 | .map (some _),v'=>∃b,v'= .map (some b)
 | .func _ _ _,v'=>∃a:Fn×Array Value×Array Value,v'= .func a.1 a.2.1 a.2.2
 | .iface t _,v'=>∃u,v'= .iface t u
 | .pointer none,v'=>∃_:Unit,v'= .pointer none
 | .slice none n c,v'=>∃_:Unit,v'= .slice none n c
 | .map none,v'=>∃_:Unit,v'= .map none
 | .nilFunc,v'=>∃_:Unit,v'= .nilFunc
 | .nilIface,v'=>∃_:Unit,v'= .nilIface
 | _,_=>True
theorem VR.look{v v':Value}(h:VR U v v'):aQf v v':=by
 cases h with
 | flat h=>
  cases v
  case pointer a=>cases a with | none=>exact⟨(),rfl⟩ | some a=>simp [bE]at h
  case slice a n c=>cases a with | none=>exact⟨(),rfl⟩ | some a=>simp [bE]at h
  case map a=>cases a with | none=>exact⟨(),rfl⟩ | some a=>simp [bE]at h
  case func=>simp [bE]at h
  case iface=>simp [bE]at h
  case nilFunc=>exact⟨(),rfl⟩
  case nilIface=>exact⟨(),rfl⟩
  all_goals trivial
 | ptr _=>exact⟨_,rfl⟩
 | slice _=>exact⟨(_,_,_),rfl⟩
 | oG _ _ _ _ _=>exact⟨(_,_,_),rfl⟩
 | zQ=>exact⟨(_,_,_),rfl⟩
 | zR _=>exact⟨(_,_,_),rfl⟩
 | map _=>exact⟨_,rfl⟩
 | func _ _ _ _=>exact⟨(_,_,_),rfl⟩
 | yield _=>exact⟨(_,_,_),rfl⟩
 | GS _=>exact⟨(_,_,_),rfl⟩
 | iface _=>exact⟨_,rfl⟩
 | agg _ _=>trivial
 | tuple _ _=>trivial
theorem MP{t:TypeId}{a b a' b':Value}{k:Bool->Bool}(hk:oX P t a b k=true)(ha:VR U a a')(hb:VR U b b'):
 ∃e,k e=true/\(∀(w:World),(Op.equal t a' b').run P w= .ok e w)/\(∀(op:BinOp) (x y:Operand) (w:World),(eqGuard op t x y a' b').run P w= .ok () w):=by
 have guard:∀(op:BinOp) (x y:Operand) (w:World),(∀xs,a'≠ .agg xs)->(a'= .nilIface->b'≠ .nilIface)->(eqGuard op t x y a' b').run P w= .ok () w:=by
  intro op x y w h1 h2;unfold eqGuard;cases op<;>cases a'<;>cases b'<;>first | rfl | exact absurd rfl (h1 _) | exact absurd rfl (h2 rfl)
 unfold oX at hk;split at hk
 ·rename_i xs ys
  split at hk
  ·rename_i fs hfs
   obtain⟨h1,h2,h3,h4,h5⟩:=CY hfs;obtain⟨xs',rfl,hx⟩:=ha.IN;obtain⟨ys',rfl,hy⟩:=hb.IN;obtain⟨e,he,hr⟩:=Ku fs 0 _ _ xs' ys' k h3 hk (by simpa using hx) (by simpa using hy);refine⟨e,he,λw=>?_,λop x y w=>run_eqGuard_agg w op t x y xs' ys' h5⟩;show(Op.equalIn (9999+1) t _ _).run P w=_;rw [run_equalIn_struct w 9999 t xs' ys' h1 h4,h2];exact hr 9998 w
  ·cases hk
 all_goals first
  | cases hk;done
  | (split at hk<;>first
   | cases hk;done
   | (rename_i hu
      rw [oQ]at hk;have ea:=ha.of_flat rfl;have eb:=hb.of_flat rfl;rw [ea,eb]at guard;rw [ea,eb];exact⟨_,hk,λw=>run_equal_bool w t _ _ hu,λop x y w=>guard op x y w (by simp) (by simp)⟩)
   | (rename_i hu
      obtain⟨_,ea⟩:=ha.look;obtain⟨_,eb⟩:=hb.look;refine⟨_,hk,λw=>?_,λop x y w=>guard op x y w ?_ ?_⟩
      ·show(Op.equalIn (9999+1) t _ _).run P w=_
       rw [ea,eb]
       first
        | exact aP6 w 9999 hu _ | exact aP7 w 9999 hu _ | exact aP8 w 9999 hu | exact aP9 w 9999 hu _ _ _ _ _ | exact aQa w 9999 hu _ _ _ _ _ | exact aQb w 9999 hu _ _ _ _ | exact aQc w 9999 hu _ | exact aQd w 9999 hu _
        | exact aQe w 9999 hu | exact aOy w 9999 hu _ _ _ | exact aOz w 9999 hu _ _ _ | exact aOA w 9999 hu | exact aOB w 9999 hu _ _ | exact aOC w 9999 hu _ _
      ·intro xs e;rw [ea]at e;cases e
      ·intro e e2;rw [ea]at e;rw [eb]at e2;first | (cases e;done) | (cases e2;done)))
end
section
variable{P:Program}{w0:World}{U:Rn}{S:St}{w:World}
def xJ:Value->Bool
 | .int _ _ | .float _ _ | .complex _ _ _ | .string _=>true
 | _=>false
theorem VR.xJ{v v':Value}(h:VR U v v'):xJ v'=xJ v:=by cases h<;>rfl
theorem YL{t:TypeId}{a b:Value}{k:Bool->Bool}(hk:oX P t a b k=true):xJ a=false:=by
 cases a<;>first | rfl | (unfold oX at hk;cases hk)
theorem binOp_eql{t:TypeId}{a b:Value}(h:xJ a=false):binOp .eql t a b=(do pure (.bool (<-Op.equal t a b))):=by
 cases a<;>cases b<;>first | rfl | (simp [xJ]at h)
theorem binOp_neq{t:TypeId}{a b:Value}(h:xJ a=false):binOp .neq t a b=(do pure (.bool (!(<-Op.equal t a b)))):=by
 cases a<;>cases b<;>first | rfl | (simp [xJ]at h)
theorem Pu(op:BinOp)(t:TypeId)(x y:Operand){a b:Value}(ha:xJ a=true)(w:World):(eqGuard op t x y a b).run P w= .ok () w:=by
 unfold eqGuard;cases op<;>cases a<;>first | (simp [xJ]at ha;done) | (cases b<;>rfl)
theorem Jv{op:BinOp}{t:TypeId}{a b a' b':Value}{K:Value->Bool}(hk:VB P op t a b K=true)(ha:VR U a a')(hb:VR U b b'):
 ∃v,K v=true/\bE v=true/\∀(x y:Operand) (w:World),((do eqGuard op t x y a' b';binOp op t a' b'):Sem Value).run P w= .ok v w:=by
 unfold VB at hk;split at hk
 ·rename_i k x k' y
  rw [ha.of_flat rfl,hb.of_flat rfl]
  have fin:∀v,K v=true->bE v=true->(∀(P:Program) (t:TypeId) (w:World),(binOp op t (.int k x) (.int k' y)).run P w= .ok v w)->∃v,K v=true/\bE v=true/\∀(x' y':Operand) (w:World),((do eqGuard op t x' y' (.int k x) (.int k' y);binOp op t (.int k x) (.int k' y)):Sem Value).run P w= .ok v w:=
   λv h1 h2 h3=>⟨v,h1,h2,λx' y' w=>by rw [bY,Pu op t x' y' rfl];exact h3 P t w⟩
  split at hk
  ·obtain⟨v,h1,h2,h3⟩:=YF (k':=k') hk;exact fin v h1 h2 h3
  ·obtain⟨v,h1,h2,h3⟩:=YF (k':=k') hk;exact fin v h1 h2 h3
  ·split at hk
   ·rename_i hj
    have:=GP hj;subst this;obtain⟨v,h1,h2,_,_,h3⟩:=Oe hk;exact fin v h1 h2 h3
   ·cases hk
 ·rename_i x y
  rw [ha.of_flat rfl,hb.of_flat rfl];obtain⟨v,h1,h2,h3⟩:=Of hk;exact⟨v,h1,h2,λx' y' w=>by rw [bY,Pu op t x' y' rfl];exact h3 P t w⟩
 ·split at hk
  ·have hs:=YL hk
   obtain⟨e,he,h1,h2⟩:=MP hk ha hb;rw [qE]at he;exact⟨_,he,rfl,λx y w=>by rw [bY,h2,dU,binOp_eql (by rw [ha.xJ,hs])];simp [h1]⟩
  ·have hs:=YL hk
   obtain⟨e,he,h1,h2⟩:=MP hk ha hb;rw [qE]at he;exact⟨_,he,rfl,λx y w=>by rw [bY,h2,dU,binOp_neq (by rw [ha.xJ,hs])];simp [h1]⟩
  ·cases hk
theorem Pn{op:UnOp}{a a':Value}{K:Value->Bool}(hk:unK op a K=true)(ha:VR U a a'):
 ∃v,K v=true/\bE v=true/\∀(w:World),(Op.unary op a').run P w= .ok v w:=by
 unfold unK at hk;split at hk
 ·rw [Th]at hk
  rw [ha.of_flat rfl];exact⟨_,hk,rfl,λw=>rfl⟩
 ·rw [nG]at hk
  rw [ha.of_flat rfl];exact⟨_,hk,rfl,λw=>rfl⟩
 ·rw [qE]at hk
  rw [ha.of_flat rfl];exact⟨_,hk,rfl,λw=>rfl⟩
 ·cases hk
theorem Ce{d:Nat}{x:Option Value}{k:Nat->Bool}(hk:aEL d x k=true):∃n,k n=true/\(x=none/\n=d\/∃kd,x=some (.int kd (.ofNat n))):=by
 unfold aEL at hk;split at hk
 ·exact⟨d,hk,.inl ⟨rfl,rfl⟩⟩
 ·rename_i kd n;exact⟨n,hk,.inr ⟨kd,rfl⟩⟩
 ·cases hk
def Gp(U:Rn)(x x':Option Value):Prop:=(x=none/\x'=none)\/∃v v',x=some v/\x'=some v'/\VR U v v'
theorem Gp.int{x x':Option Value}(h:Gp U x x'){kd:IntKind}{n:Nat}(e:x=some (.int kd (.ofNat n))):x'=some (.int kd (.ofNat n)):=by
 rcases h with ⟨h,_⟩ | ⟨v,v',h1,h2,hr⟩
 ·rw [e]at h;cases h
 ·rw [e]at h1;injection h1 with h1;subst h1
  rw [h2,hr.of_flat rfl]
theorem Gp.none{x x':Option Value}(h:Gp U x x')(e:x=none):x'=none:=by
 rcases h with ⟨_,h⟩ | ⟨v,v',h1,_⟩
 ·exact h
 ·rw [e]at h1;cases h1
theorem CP{len cap:Nat}{lo hi mx Hr TB XE:Option Value}{k:Nat->Nat->Nat->Bool}(hk:MN len cap lo hi mx k=true)
 (hl:Gp U lo Hr) (hh:Gp U hi TB) (hm:Gp U mx XE):
 ∃l h m,k l h m=true/\l<=h/\h<=m/\m<=cap/\(mx=none->m=cap)/\∀(YM:Nat),cap<=YM->(XE=none->mx=none)->∀(isSlice:Bool) (w:World),(XE=none\/TB≠none)->
  (Instr.sliceBounds isSlice len YM Hr TB XE).run P w= .ok (l,h,if XE=none then YM else m) w:=by
 unfold MN at hk;obtain⟨m,hk,em⟩:=Ce hk;obtain⟨h,hk,eh⟩:=Ce hk;obtain⟨l,hk,el⟩:=Ce hk;split at hk
 ·rename_i h1 h2 h3
  have h1:=aW h1;have h2:=aW h2;have h3:=aW h3;refine⟨l,h,m,hk,h1,h2,h3,λe=>?_,λYM hc hmm isS w hhi=>?_⟩
  ·rcases em with ⟨_,e'⟩ | ⟨kd,e'⟩
   ·exact e'
   ·rw [e]at e';cases e'
  ·have elo:(match Hr with | some v=>Instr.sliceBound v h (if XE.isSome then .slice3C else .sliceB) | none=>(pure 0:Sem Nat)).run P w= .ok l w:=by
    rcases el with ⟨e,e'⟩ | ⟨kd,e⟩
    ·rw [hl.none e,e'];rfl
    ·rw [hl.int e];simp [Instr.sliceBound,asIntOf,h1]
   rcases em with ⟨e,e'⟩ | ⟨kd,e⟩
   ·have emx:=hm.none e
    subst emx
    have ehi:(match TB with | some v=>Instr.sliceBound v YM (if isS then .sliceAcap else .sliceAlen) | none=>(pure len:Sem Nat)).run P w= .ok h w:=by
     rcases eh with ⟨e2,e2'⟩ | ⟨kd2,e2⟩
     ·rw [hh.none e2,e2'];rfl
     ·rw [hh.int e2];simp [Instr.sliceBound,asIntOf];omega
    unfold Instr.sliceBounds;cases TB with
    | none=>
     simp at ehi;cases Hr with
     | none=>simp at elo;simp [elo,ehi]
     | some u=>simp at elo;simp [elo,ehi]
    | some v=>
     simp at ehi;cases Hr with
     | none=>simp at elo;simp [elo,ehi]
     | some u=>simp at elo;simp [elo,ehi]
   ·have emx:=hm.int e
    subst emx;have aQg:TB≠none:=by rcases hhi with h | h;cases h;exact h
    rcases eh with ⟨e2,_⟩ | ⟨kd2,e2⟩
    ·exact absurd (hh.none e2) aQg
    ·have ehi:=hh.int e2
     subst ehi;simp only [Bc,if_true]at elo;have r1:(Instr.sliceBound (.int kd (.ofNat m)) YM (if isS then .slice3Acap else .slice3Alen)).run P w= .ok m w:=by simp [Instr.sliceBound,asIntOf];omega
     have r2:(Instr.sliceBound (.int kd2 (.ofNat h)) m .slice3B).run P w= .ok h w:=by simp [Instr.sliceBound,asIntOf];omega
     unfold Instr.sliceBounds;cases Hr with
     | none=>
      simp at elo;simp only [bY,r1,dU,r2,jU];simp [elo]
     | some u=>
      simp only at elo;simp only [bY,r1,dU,r2,jU,Bc,if_true,elo];simp
 ·cases hk
end
section
variable{P:Program}{w0:World}{U:Rn}{S:St}{w:World}
theorem gI{t e:TypeId}(h:isSlice P t=some e):P.underlying t=some (.slice e):=by
 unfold isSlice at h;split at h
 ·rename_i hu;injection h with h;subst h;exact hu
 ·cases h
theorem Zm(s:ByteArray)(l h:Nat)(_:h<=s.size):s.extract l h=⟨⟨(s.data.toList.take h).drop l⟩⟩:=by
 apply ByteArray.ext;apply iR.1;simp [ByteArray.data_extract,aBF,List.extract_eq_take_drop,List.drop_take]
theorem XW(h:Rel P w0 U S w){t:TypeId}{x x':Value}{lo hi mx Hr TB XE:Option Value}{K:Value->Bool}(hk:sJ P t x lo hi mx S K=true)
 (hx:VR U x x') (hl:Gp U lo Hr) (hh:Gp U hi TB) (hm:Gp U mx XE) (hmh:XE=none\/TB≠none):
 ∃v v',K v=true/\VR U v v'/\∀w,(Instr.sliceAt t x' Hr TB XE).run P w= .ok v' w:=by
 have hmm:XE=none->mx=none:=λe=>by
  rcases hm with ⟨h,_⟩ | ⟨_,_,_,h,_⟩
  ·exact h
  ·rw [e]at h;cases h
 unfold sJ at hk;split at hk
 ·
   rename_i s;split at hk
   ·rename_i hu
    rw [hx.of_flat rfl];rw [kM]at hk;obtain⟨l,h',m,hk,h1,h2,h3,h4,dF⟩:=CP (P:=P) hk hl hh (.inl ⟨rfl,rfl⟩);rw [CX]at hk;have hsz:s.data.toList.length=s.size:=rfl;split at hk
    ·rename_i hle
     rw [zT]at hk;split at hk
     ·refine⟨_,_,hk,.flat rfl,λw=>?_⟩
      have e1:=hm.none rfl;subst e1;have:=dF s.data.toList.length (bI _) (λ_=>rfl) false w (.inl rfl);rw [hsz]at this;simp only [if_true]at this;simp [Instr.sliceAt,run_underlying hu,Instr.slice,this,Zm s l h' (by omega)]
     ·cases hk
    ·cases hk
   ·cases hk
 ·
   rename_i len cap;split at hk
   ·rename_i e he
    have hu:=gI he;split at hk
    ·rename_i size hsz
     rw [hx.of_flat rfl];obtain⟨l,h',m,wU,h1,h2,h3,h4,dF⟩:=CP (P:=P) hk hl hh hm;simp only [bA]at wU;refine⟨_,.slice none (h'-l) (m-l),wU,.flat rfl,λw=>?_⟩;have:=dF cap (bI _) hmm true w hmh
     have em:(if XE=none then cap else m)=m:=by
      split
      ·rename_i e2;exact(h4 (hmm e2)).symm
      ·rfl
     rw [em]at this;simp [Instr.sliceAt,run_underlying hu,Instr.slice,this,gS hsz]
    ·cases hk
   ·cases hk
 ·
   rename_i i o sp len cap;split at hk
   ·rename_i e he
    have hu:=gI he;split at hk
    ·rename_i size hsz
     obtain⟨l,h',m,wU,h1,h2,h3,h4,dF⟩:=CP (P:=P) hk hl hh hm;simp only [bA]at wU;clear hk
     have go:∀(a:Addr) (YM:Nat),cap<=YM->∀w,(Instr.sliceAt t (.slice (some a) len YM) Hr TB XE).run P w=
      .ok (.slice (some (if(if XE=none then YM else m)=l then a else a.add (l*size))) (h'-l) ((if XE=none then YM else m)-l)) w:=by
      intro a YM hc w;have:=dF YM hc hmm true w hmh;have e1:∀(q:Nat),(if q=l then some a else some (a.add (l*size)))=some (if q=l then a else a.add (l*size)):=λq=>by split<;>rfl
      simp [Instr.sliceAt,run_underlying hu,Instr.slice,this,gS hsz,e1]
     cases hx with
     | flat h=>simp [bE]at h
     | @slice _ _ _ _ L hL=>
      have em:(if XE=none then cap else m)=m:=by
       split
       ·rename_i e2;exact(h4 (hmm e2)).symm
       ·rfl
      have Np:=go ⟨L.b,L.s+o,none⟩ cap (bI _);simp only [em]at Np
      replace wU:(match Nat.beq m l with | true=>K (.slice (some ⟨i,o,none⟩) (h'-l) (m-l)) | false=>K (.slice (some ⟨i,o+l*size,none⟩) (h'-l) (m-l)))=true:=wU
      split at wU
      ·rename_i DT
       have DT:=cT DT;exact⟨_,_,wU,.slice hL,λw=>by rw [Np w,if_pos DT]⟩
      ·rename_i DT
       have DT:m≠l:=λe=>by subst e;simp at DT
       exact⟨_,_,wU,.slice hL,λw=>by rw [Np w,if_neg DT,mB,uQ]⟩
     | @oG _ _ _ _ c' L hL hc hn Yb hmp=>
      have Np:=go ⟨L.b,L.s+o,none⟩ c' hc;cases mx with
      | some y=>
       have wC:XE≠none:=λe=>by have:=hmm e;cases this
       simp only [if_neg wC]at Np
       replace wU:(match Nat.beq m l with | true=>K (.slice (some ⟨i,o,none⟩) (h'-l) (m-l)) | false=>K (.slice (some ⟨i,o+l*size,none⟩) (h'-l) (m-l)))=true:=wU
       split at wU
       ·rename_i DT
        have DT:=cT DT;exact⟨_,_,wU,.slice hL,λw=>by rw [Np w,if_pos DT]⟩
       ·rename_i DT
        have DT:m≠l:=λe=>by subst e;simp at DT
        exact⟨_,_,wU,.slice hL,λw=>by rw [Np w,if_neg DT,mB,uQ]⟩
      | none=>
       have he':=hm.none rfl;subst he';simp only [if_true]at Np;have hm':=h4 rfl;subst hm'
       replace wU:(match Nat.beq m l with | true=>K (.slice (some ⟨i,0,some 1⟩) 0 0) | false=>(wJ S i λ_ e ck=>match ck,bP P e with | .exact,_=>false | _,some q=>(match Nat.beq q size with | true=>K (.slice (some ⟨i,o+l*size,some 0⟩) (h'-l) (m-l)) | false=>false) | _,none=>false))=true:=wU
       split at wU
       ·rename_i DT
        have DT:=cT DT;have e0:h'-l=0:=by omega
        refine⟨_,.slice (some (if c'=l then⟨L.b,L.s+o,none⟩else(⟨L.b,L.s+o,none⟩:Addr).add (l*size))) 0 (c'-l),wU,.zQ,λw=>?_⟩;rw [Np w,e0]
       ·rename_i DT
        have DT:m≠l:=λe=>by subst e;simp at DT
        obtain⟨vs,e',ck,ho,wU⟩:=uZ wU;obtain⟨cs,tt,fz,hb,_,pQ⟩:=h.cells ho hL;cases hq:bP P e' with
        | none=>rw [hq]at wU;cases ck<;>cases wU
        | some q=>
         rw [hq]at wU;have wC:ck≠ .exact:=by rintro rfl;cases wU
         have tZ:(match Nat.beq q size with | true=>K (.slice (some ⟨i,o+l*size,some 0⟩) (h'-l) (m-l)) | false=>false)=true:=by cases ck<;>first | exact wU | exact absurd rfl wC
         split at tZ
         ·rename_i hqs
          have hqs:=cT hqs;subst hqs
          have hm:L.m=q:=by
           cases ck with
           | exact=>exact absurd rfl wC
           | grown _=>obtain⟨_,_,_,h5,_⟩:=pQ;rw [hq]at h5;injection h5 with h5;exact h5.symm
           | sA=>obtain⟨_,h5,_⟩:=pQ;rw [hq]at h5;injection h5 with h5;exact h5.symm
           | ro=>have h5:bP P e'=some L.m:=pQ;rw [hq]at h5;injection h5 with h5;exact h5.symm
           | rs=>have h5:=pQ.1;rw [hq]at h5;injection h5 with h5;exact h5.symm
          refine⟨_,.slice (some ⟨L.b,L.s+(o+l*q),none⟩) (h'-l) (c'-l),tZ,(.oG hL (by omega) (by omega) ?_ hmp),λw=>by rw [Np w,if_neg (by omega),mB,uQ]⟩;rw [hm]at Yb ⊢;have:l*q+(c'-l)*q=c'*q:=by rw [<-mG];congr 1;omega
          omega
         ·cases tZ
     | @zQ _ c' a=>
      have e0:l=0/\h'=0/\m=0:=by omega
      obtain⟨rfl,rfl,rfl⟩:=e0;have Np:=go a c' (gF _)
      replace wU:K (.slice (some ⟨i,0,some 1⟩) 0 0)=true:=wU
      refine⟨_,.slice (some a) 0 ((if XE=none then c' else 0)-0),wU,.zQ,λw=>?_⟩;rw [Np w];simp [Addr.add]
     | @zR _ _ s sp2 Hl=>
      have e0:l=0/\h'=0/\m=0:=by omega
      obtain⟨rfl,rfl,rfl⟩:=e0;have Np:=go ⟨i,o,sp2⟩ 0 (gF _)
      replace wU:K (.slice (some ⟨i,0,some 1⟩) 0 0)=true:=wU
      refine⟨_,.slice (some ⟨i,o,sp2⟩) 0 ((if XE=none then 0 else 0)-0),wU,.zQ,λw=>?_⟩;rw [Np w];simp []
    ·cases hk
   ·cases hk
 ·
   rename_i i o;split at hk
   ·rename_i n e hu
    split at hk
    ·rename_i size hsz
     obtain⟨l,h',m,wU,h1,h2,h3,h4,dF⟩:=CP (P:=P) hk hl hh hm;simp only [bA]at wU;clear hk
     have em:(if XE=none then n else m)=m:=by
      split
      ·rename_i e2;exact(h4 (hmm e2)).symm
      ·rfl
     cases hx with
     | flat h=>simp [bE]at h
     | @ptr _ _ L hL=>
      have Np:∀w,(Instr.sliceAt t (.pointer (some ⟨L.b,L.s+o,none⟩)) Hr TB XE).run P w= .ok (.slice (some (if m=l then⟨L.b,L.s+o,none⟩else(⟨L.b,L.s+o,none⟩:Addr).add (l*size))) (h'-l) (m-l)) w:=by
       intro w;have:=dF n (bI _) hmm false w hmh;rw [em]at this;simp [Instr.sliceAt,run_underlying hu,Instr.sureAddr,this,gS hsz]
      split at wU
      ·rename_i DT
       have DT:=cT DT;exact⟨_,_,wU,.slice hL,λw=>by rw [Np w,if_pos DT]⟩
      ·rename_i DT
       have DT:m≠l:=λe=>by subst e;simp at DT
       exact⟨_,_,wU,.slice hL,λw=>by rw [Np w,if_neg DT,mB,uQ]⟩
    ·cases hk
   ·cases hk
 ·cases hk
end
section
variable{P:Program}{w0:World}{U:Rn}{S:St}{w:World}
theorem VR.jC{i o:Nat}{sp:Option Nat}{n c:Nat}{v':Value}(h:VR U (.slice (some ⟨i,o,sp⟩) n c) v'):
 (∃L c',U i=some L/\v'= .slice (some ⟨L.b,L.s+o,none⟩) n c'/\((sp=none/\c'=c)\/(sp=some 0/\c<=c'/\n<=c/\L.s+o+c'*L.m=L.e/\0<L.m)))\/((∃s,sp=some (s+1))/\n=0/\c=0/\∃a c',v'= .slice (some a) 0 c'):=by
 cases h with
 | flat h=>simp [bE]at h
 | slice hL=>exact .inl ⟨_,_,hL,rfl,.inl ⟨rfl,rfl⟩⟩
 | oG hL hc hn he hm=>exact .inl ⟨_,_,hL,rfl,.inr ⟨rfl,hc,hn,he,hm⟩⟩
 | zQ=>exact .inr ⟨⟨_,rfl⟩,rfl,rfl,_,_,rfl⟩
 | zR _=>exact .inr ⟨⟨_,rfl⟩,rfl,rfl,_,_,rfl⟩
theorem VR.FF{i o:Nat}{sp:Option Nat}{v':Value}(h:VR U (.pointer (some ⟨i,o,sp⟩)) v'):sp=none/\∃L,U i=some L/\v'= .pointer (some ⟨L.b,L.s+o,none⟩):=by
 cases h with
 | flat h=>simp [bE]at h
 | ptr hL=>exact⟨rfl,_,hL,rfl⟩
theorem KY{t:TypeId}{x x' ix ix':Value}{K:Value->Bool}(hk:sK P t x ix K=true)(hx:VR U x x')(hi:VR U ix ix'):
 ∃v v',K v=true/\VR U v v'/\∀w,(Instr.indexAt t x' ix').run P w= .ok v' w:=by
 unfold sK at hk;split at hk
 ·rename_i kd j
  rw [hi.of_flat rfl];split at hk
  ·rename_i b o sp len c
   rcases hx.jC with ⟨L,c',hL,rfl,CW⟩ | ⟨⟨_,rfl⟩,_⟩
   ·have tZ:(match isSlice P t with
     | some elem=>(match bP P elem,Nat.blt j len with
      | some size,true=>cG (o+j*size) λo=>K (.pointer (some ⟨b,o,none⟩))
      | _,_=>false)
     | none=>false)=true:=by
     rcases CW with ⟨rfl,_⟩ | ⟨rfl,_⟩<;>exact hk
    split at tZ
    ·rename_i e he
     have hu:=gI he;split at tZ
     ·rename_i size hsz hj
      have hj:j<len:=aW hj;rw [bA]at tZ;refine⟨_,_,tZ,.ptr hL,λw=>?_⟩;simp [Instr.indexAt,asIntOf,run_underlying hu,hj,gS hsz,mB,uQ]
     ·cases tZ
    ·cases tZ
   ·cases hk
  ·rename_i b o
   obtain⟨_,L,hL,rfl⟩:=hx.FF;split at hk
   ·rename_i len e hu
    split at hk
    ·rename_i size hsz hj
     have hj:j<len:=aW hj;rw [bA]at hk;refine⟨_,_,hk,.ptr hL,λw=>?_⟩;simp [Instr.indexAt,asIntOf,run_underlying hu,Instr.sureAddr,hj,gS hsz,mB,uQ]
    ·cases hk
   ·cases hk
  ·cases hk
 ·cases hk
theorem XL{s:TypeId}{f:Nat}{fd:Field}(h:zO P s f=some fd):∃fs,P.underlying s=some (.struct fs)/\fs[f]? =some fd:=by
 unfold zO at h;split at h
 ·rename_i fs hu;exact⟨fs,hu,h⟩
 ·cases h
theorem KZ{s:TypeId}{x x':Value}{f:Nat}{K:Value->Bool}(hk:BO P s x f K=true)(hx:VR U x x'):
 ∃v v',K v=true/\VR U v v'/\∀w,(Instr.fieldAt s x' f).run P w= .ok v' w:=by
 unfold BO at hk;split at hk
 ·rename_i b o
  obtain⟨_,L,hL,rfl⟩:=hx.FF;split at hk
  ·rename_i fd hf
   obtain⟨fs,hu,hfs⟩:=XL hf;split at hk
   ·rename_i q hsz
    rw [bA]at hk;refine⟨_,_,hk,.ptr hL,λw=>?_⟩;simp [Instr.fieldAt,run_underlying hu,hfs,Instr.sureAddr,fieldPlace,gS hsz,mB,uQ]
   ·cases hk
  ·cases hk
 ·cases hk
theorem Ec{t:TypeId}{cs:List Value}{cs':Array Value}{off:Nat}{K:Value->Bool}(hk:Pd P t cs off K=true)(xV:lD U cs cs'.toList):
 ∃v v',K v=true/\VR U v v'/\∀w,(part t cs' off).run P w= .ok v' w:=by
 unfold Pd at hk;split at hk
 ·rename_i aBN
  obtain⟨v,hv,hk⟩:=LA hk;obtain⟨v',FG,hr⟩:=xV.get hv;rw [Ir]at FG;exact⟨v,v',hk,hr,λw=>by simp [part,GL aBN,FG]⟩
 ·rename_i aBN
  split at hk
  ·rename_i n hsz
   rw [zT]at hk;split at hk
   ·rw [CX]at hk
    split at hk
    ·rename_i h1 h2
     refine⟨_,.agg ⟨(cs'.toList.drop off).take n⟩,hk,.Sd ((xV.drop off).take n),λw=>?_⟩
     have:cs'.extract off (off+n)=⟨(cs'.toList.drop off).take n⟩:=by
      apply iR.1;simp [aBF,List.extract_eq_take_drop]
     simp [part,GL aBN,gS hsz,this]
    ·cases hk
   ·cases hk
  ·cases hk
 ·cases hk
theorem XM{t:TypeId}{x x':Value}{f:Nat}{K:Value->Bool}(hk:PH P t x f K=true)(hx:VR U x x'):
 ∃v v',K v=true/\VR U v v'/\∀w,(Instr.field t x' f).run P w= .ok v' w:=by
 unfold PH at hk;split at hk
 ·rename_i cs
  obtain⟨cs',rfl,xV⟩:=hx.IN;split at hk
  ·rename_i fd hf
   obtain⟨fs,hu,hfs⟩:=XL hf;obtain⟨v,v',h1,h2,h3⟩:=Ec hk xV;exact⟨v,v',h1,h2,λw=>by simp [Instr.field,run_underlying hu,hfs,asAgg,h3]⟩
  ·cases hk
 ·cases hk
theorem XN{t:TypeId}{x x' ix ix':Value}{K:Value->Bool}(hk:Bo P t x ix K=true)(hx:VR U x x')(hi:VR U ix ix'):
 ∃v v',K v=true/\VR U v v'/\∀w,(Instr.index t x' ix').run P w= .ok v' w:=by
 unfold Bo at hk;split at hk
 ·rename_i kd j
  rw [hi.of_flat rfl];split at hk
  ·rename_i cs
   obtain⟨cs',rfl,xV⟩:=hx.IN;split at hk
   ·rename_i len e hu
    split at hk
    ·rename_i size hsz hj
     have hj:j<len:=aW hj;obtain⟨v,v',h1,h2,h3⟩:=Ec hk xV;exact⟨v,v',h1,h2,λw=>by simp [Instr.index,asIntOf,run_underlying hu,hj,gS hsz,h3]⟩
    ·cases hk
   ·cases hk
  ·rename_i s
   rw [hx.of_flat rfl];split at hk
   ·rename_i hu
    obtain⟨b,hb,hk⟩:=LA hk;rw [bA]at hk;refine⟨_,_,hk,.flat rfl,λw=>?_⟩
    have TU:s[j]? =some b:=by
     rw [Ir]at hb;obtain⟨h1,h2⟩:=nN.1 hb;have h3:j<s.size:=h1;rw [getElem?_pos s j h3]
     congr 1
    simp [Instr.index,asIntOf,run_underlying hu,TU]
   ·cases hk
  ·cases hk
 ·cases hk
theorem Se(l:List Value):∀(off n:Nat) (cs:Array Value),off+n+l.length<=cs.size->
 ((l.zipIdx n).foldl (λcs (x:Value×Nat)=>cs.setIfInBounds (off+x.2) x.1) cs).toList=aE (off+n) l cs.toList:=by
 induction l with
 | nil=>intro off n cs _;simp [aE]
 | cons v l ih=>
  intro off n cs h;simp only [List.zipIdx_cons,PA];rw [ih off (n+1) _ (by simp at h ⊢;omega)];apply uO;intro j;have hl:cs.toList.length=cs.size:=rfl;rw [fW _ _ _ (by simp at h ⊢;omega),fW _ _ _ (by simp at h ⊢;omega)];simp only [UM,qS];by_cases h2:j=off+n
  ·subst h2
   rw [if_neg (by omega),if_pos (by omega),Nat.sub_self];have:off+n<cs.size:=by simp at h;omega
   simp [this]
  ·by_cases h3:off+(n+1)<=j/\j<off+(n+1)+l.length
   ·rw [if_pos h3,if_pos (by omega)]
    obtain⟨q,rfl⟩:∃q,j=off+n+(q+1):=⟨j-(off+n+1),by omega⟩;rw [show off+n+(q+1)-(off+(n+1))=q by omega,show off+n+(q+1)-(off+n)=q+1 by omega];simp
   ·rw [if_neg h3,if_neg (by omega),UO (by omega)]
def Jj(U:Rn)(l l':List (Nat×Value)):Prop:=l.length=l'.length/\∀(k:Nat) (p p':Nat×Value),l[k]? =some p->l'[k]? =some p'->p.1=p'.1/\VR U p.2 p'.2
theorem Jj.cC{p:Nat×Value}{l l':List (Nat×Value)}(h:Jj U (p::l) l'):∃p' t',l'=p'::t'/\p.1=p'.1/\VR U p.2 p'.2/\Jj U l t':=by
 cases l' with
 | nil=>have:=h.1;simp at this
 | cons p' t'=>
  obtain⟨h1,h2⟩:=h.2 0 p p' rfl rfl;exact⟨p',t',rfl,h1,h2,by simpa using h.1,λk q q' a b=>h.2 (k+1) q q' (by simpa using a) (by simpa using b)⟩
theorem IP{place place':Nat->Option (Nat×Nat)}(rY:∀i q,place i=some q->place' i=some q):∀{parts parts':List (Nat×Value)} {cells:List Value} {cells':Array Value} {k:List Value->Bool},
 TS place parts cells k=true->Jj U parts parts'->lD U cells cells'.toList->∃out Nt,k out=true/\Instr.fill place' cells' parts'=some Nt/\lD U out Nt.toList/\out.length=cells.length:=by
 intro parts;induction parts with
 | nil=>
  intro parts' cells cells' k hk hp hc;have:parts'=[]:=mS hp.1.symm;subst this;exact⟨cells,cells',hk,rfl,hc,rfl⟩
 | cons p parts ih=>
  intro parts' cells cells' k hk hp hc;obtain⟨p',t',rfl,h1,h2,ht⟩:=hp.cC
  have wU:(match place p.1 with
   | some (off,size)=>oW p.2 λnew=>CU new λm=>match Nat.beq m size with
    | true=>rF off new cells λcs=>TS place parts cs k
    | false=>false
   | none=>false)=true:=hk
  split at wU
  ·rename_i off size hq
   obtain⟨new,wU,GM,XO,_⟩:=CJ wU h2;rw [kM]at wU;split at wU
   ·rename_i hm
    have hm:=cT hm;rw [xW]at wU;split at wU
    ·rename_i hlen
     have hsz:p'.2.cells.size=size:=by rw [<-hm,XO.1];rfl
     have Ed:cells.length=cells'.size:=hc.1;have MB:new.length=p'.2.cells.size:=XO.1
     have e1:(p'.2.cells.zipIdx.foldl (λcs (x:Value×Nat)=>cs.setIfInBounds (off+x.2) x.1) cells').toList=aE off p'.2.cells.toList cells'.toList:=by
      rw [<-aBL,Array.toList_zipIdx];exact Se p'.2.cells.toList off 0 cells' (by have:p'.2.cells.toList.length=p'.2.cells.size:=rfl;omega)
     obtain⟨out,Nt,g1,g2,g3,g4⟩:=ih (cells':=p'.2.cells.zipIdx.foldl (λcs (x:Value×Nat)=>cs.setIfInBounds (off+x.2) x.1) cells') wU ht (by rw [e1];exact hc.aE XO off);refine⟨out,Nt,g1,?_,g3,by rw [g4,kY _ _ _ hlen]⟩;obtain⟨i',v'⟩:=p';simp only at h1;simp only [Instr.fill,<-h1,rY _ _ hq];have c1:(v'.cells.size != size)=false:=by simp;exact hsz
     have c2:¬off+v'.cells.size>cells'.size:=by
      have:v'.cells.size=new.length:=by rw [MB]
      omega
     rw [if_neg (by simp;have:v'.cells.size=new.length:=by rw [MB]
                    omega)]
     exact g2
    ·cases wU
   ·cases wU
  ·cases wU
end
section
variable{P:Program}{w0:World}{U:Rn}{S:St}{w:World}
theorem FH(h:Rel P w0 U S w){A:aO}{a:Act}(hA:xX P U A a):∀{parts:List (Nat×Operand)} {k:List (Nat×Value)->Bool},DY A parts k=true->
 ∃ps,k ps=true/\Jj U ps (parts.map λp=>(p.1,a.eval p.2)):=by
 intro parts;induction parts with
 | nil=>intro k hk;exact⟨[],hk,rfl,by simp⟩
 | cons p parts ih=>
  intro k hk;obtain⟨v,hv,hr⟩:=aK h hA (show tC A p.2 (λv=>DY A parts λl=>k ((p.1,v)::l))=true from hk);obtain⟨ps,Ee,hrs⟩:=ih hv;refine⟨(p.1,v)::ps,Ee,by simp [hrs.1],λj q q' x y=>?_⟩;cases j with
  | zero=>simp at x y;subst x y;exact⟨rfl,hr⟩
  | succ j=>simp at x;exact hrs.2 j q q' x (by simpa using y)
theorem Sf:∀(fs:List Field) (pl:List (Nat×Nat)),placesOf P fs=some pl->∀w,(fs.mapM (λf=>(do pure (f.offset,<-sizeOf f.type):Sem (Nat×Nat)))).run P w= .ok pl w:=by
 intro fs;induction fs with
 | nil=>intro pl h w;simp [placesOf]at h;subst h;rfl
 | cons f fs ih=>
  intro pl h w;simp only [placesOf,Bi]at h;cases hs:bP P f.type with
  | none=>simp [hs]at h
  | some s=>
   cases hp:fs.mapM (λf=>(bP P f.type).map λs=>(f.offset,s))with
   | none=>simp [hs,hp]at h
   | some pl'=>
    simp [hs,hp]at h;subst h;have:=ih pl' hp w;simp only [Bi,bY,gS hs,dU,jU,this]
theorem XP(h:Rel P w0 U S w){A:aO}{a:Act}(hA:xX P U A a){t:TypeId}{parts:Array (Nat×Operand)}{K:Value->Bool}(hk:Jg P A t parts.toList K=true):
 ∃v v',K v=true/\VR U v v'/\∀w,(Instr.build t (parts.map λp=>(p.1,a.eval p.2))).run P w= .ok v' w:=by
 unfold Jg at hk;split at hk
 ·rename_i zero fields hz hu
  split at hk
  ·rename_i pl rY
   split at hk
   ·rename_i Ef
    obtain⟨ps,hk,Ee⟩:=FH h hA hk;have Pg:lD U zero zero:= .flat (by rw [jZ]at Ef;exact dJ.1 Ef);obtain⟨out,Nt,g1,g2,g3,_⟩:=IP (place':=(pl.toArray[·]?)) (cells':=⟨zero⟩) (by intro i q hq;simpa using hq) hk Ee Pg;refine⟨_,.agg Nt,g1,.Sd g3,λw=>?_⟩;obtain⟨zv,Hh,XB⟩:=BQ hz w;have ez:zv.cells=⟨zero⟩:=iR.1 XB;have hpr:=Sf fields.toList pl rY w
    have aPM:(fields.mapM (λf=>(do pure (f.offset,<-sizeOf f.type):Sem (Nat×Nat)))).run P w= .ok pl.toArray w:=by
     rw [Array.mapM_eq_mapM_toList,Sem.run_map,hpr];rfl
    simp only [Instr.build,bY,Hh,dU,run_underlying hu,aPM,ez];have e2:(parts.map λp=>(p.1,a.eval p.2)).toList=parts.toList.map λp=>(p.1,a.eval p.2):=by simp
    rw [e2,g2];rfl
   ·cases hk
  ·cases hk
 ·rename_i zero n elem hz hu
  split at hk
  ·rename_i size hsz
   split at hk
   ·rename_i Ef
    obtain⟨ps,hk,Ee⟩:=FH h hA hk;have Pg:lD U zero zero:= .flat (by rw [jZ]at Ef;exact dJ.1 Ef);obtain⟨out,Nt,g1,g2,g3,_⟩:=IP (place':=λi=>some (i*size,size)) (cells':=⟨zero⟩) (by intro i q hq;exact hq) hk Ee Pg;refine⟨_,.agg Nt,g1,.Sd g3,λw=>?_⟩;obtain⟨zv,Hh,XB⟩:=BQ hz w;have ez:zv.cells=⟨zero⟩:=iR.1 XB;have e2:(parts.map λp=>(p.1,a.eval p.2)).toList=parts.toList.map λp=>(p.1,a.eval p.2):=by simp
    simp only [Instr.build,bY,Hh,dU,run_underlying hu,gS hsz,ez];rw [e2,g2];rfl
   ·cases hk
  ·cases hk
 ·cases hk
theorem Rel.SE(h:Rel P w0 U S w){cs cs':List Value}(xV:lD U cs cs')(t:TypeId){K:Nat->St->Bool}(hk:uH S (.cells cs t .exact) K=true):
 ∃U' S' w',K S.n S'=true/\w'=w.alloc (.cells ⟨cs'⟩ t)/\Rel P w0 U' S' w'/\uI U w U' w'/\∃L,U' S.n=some L/\L.b=w.heap.size/\L.s=0:=by
 rw [gZ]at hk;obtain⟨h1,h2⟩:=h.aGu xV t 0;exact⟨_,_,_,hk,rfl,h1,h2,_,Rn.kD _ _ _,rfl,rfl⟩
theorem Rel.aJI(h:Rel P w0 U S w)(ob:Obj){K:Nat->St->Bool}(hk:uH S .dead K=true):
 ∃U' S' w',K S.n S'=true/\w'=w.alloc ob/\Rel P w0 U' S' w'/\uI U w U' w'/\∃L,U' S.n=some L/\L.b=w.heap.size/\L.s=0:=by
 rw [gZ]at hk;obtain⟨h1,h2⟩:=h.new .dead ob ⟨w.heap.size,0,0,0⟩ rfl (λ_ _ _=>trivial) (λ_ hi=>nomatch hi);exact⟨_,_,_,hk,rfl,h1,h2,_,Rn.kD _ _ _,rfl,rfl⟩
theorem VR.aL2{i:Nat}{L:Loc}(h:U i=some L){b:Nat}(hb:L.b=b)(hs:L.s=0):VR U (.pointer (some ⟨i,0,none⟩)) (.pointer (some ⟨b,0,none⟩)):=by
 have:=VR.ptr (o:=0) h;rw [hb,hs]at this;exact this
theorem VR.Jk{i:Nat}{L:Loc}(h:U i=some L){b:Nat}(hb:L.b=b)(hs:L.s=0)(n c:Nat):VR U (.slice (some ⟨i,0,none⟩) n c) (.slice (some ⟨b,0,none⟩) n c):=by
 have:=VR.slice (o:=0) (n:=n) (c:=c) h;rw [hb,hs]at this;exact this
theorem aBO(h:Rel P w0 U S w){t:TypeId}{x x':Value}{K:VK}(hk:Xo t x S K=true)(hx:VR U x x'):
 ∃U' v S' v' w',K v S'=true/\(Instr.box t x').run P w= .ok v' w'/\VR U' v v'/\Rel P w0 U' S' w'/\uI U w U' w':=by
 unfold Xo at hk;obtain⟨cs,hk,_,xV,_⟩:=CJ hk hx;obtain⟨U',S',w',hk,hw,h1,h2,L,hL,hb,hs⟩:=h.SE xV t hk;exact⟨U',_,S',_,w',hk,by subst hw;simp [Instr.box,newVar,newRow],.aL2 hL hb hs,h1,h2⟩
theorem Sg(h:Rel P w0 U S w){t:TypeId}{K:VK}(hk:PI P t S K=true):
 ∃U' v S' v' w',K v S'=true/\(Instr.alloc t true (.tuple #[])).run P w= .ok v' w'/\VR U' v v'/\Rel P w0 U' S' w'/\uI U w U' w':=by
 unfold PI at hk;split at hk
 ·rename_i zero hz
  split at hk
  ·rename_i Ef
   rw [aDz]at hk;have Pg:lD U zero zero:= .flat (by rw [jZ]at Ef;exact dJ.1 Ef);obtain⟨U',S',w',hk,hw,h1,h2,L,hL,hb,hs⟩:=h.SE Pg t hk;obtain⟨zv,Hh,XB⟩:=BQ hz w;have ez:zv.cells=⟨zero⟩:=iR.1 XB;exact⟨U',_,S',_,w',hk,by subst hw;simp [Instr.alloc,Hh,newVar,newRow,ez],.aL2 hL hb hs,h1,h2⟩
  ·cases hk
 ·cases hk
theorem Jl{t:TypeId}{z:List Value}(h:tX P t=some z){i:TypeInfo}(hi:P.info? t=some i):∃v,i.zero=some v/\v.cells.toList=z:=by
 unfold tX at h;rw [hi]at h;cases hz:i.zero with
 | none=>simp [hz]at h
 | some v=>simp [hz]at h;exact⟨v,rfl,h⟩
theorem GN(zero:List Value)(z:Array Value)(hz:z.toList=zero)(n:Nat)(h0:zero≠[]):(Array.range (n*zero.length)).map (λi=>z[i%z.size]!)=⟨(List.replicate n zero).flatten⟩:=by
 apply iR.1;have hsz:z.size=zero.length:=by rw [<-hz];rfl
 have VI:0<zero.length:=List.length_pos_iff.2 h0;apply uO;intro j;simp only [Array.toList_map,Array.toList_range,hsz];have hlen:(List.replicate n zero).flatten.length=n*zero.length:=by simp
 by_cases hj:j<n*zero.length
 ·rw [jA,Is hj]
  have hm:j%zero.length<zero.length:=Nat.mod_lt _ VI
  have e1:z[j%zero.length]! =zero[j%zero.length]:=by
   rw [getElem!_pos z _ (by omega)];subst hz;rfl
  have e2:∀n j,j<n*zero.length->(List.replicate n zero).flatten[j]? =some (zero[j%zero.length]'(Nat.mod_lt _ VI)):=by
   intro n;induction n with
   | zero=>intro j hj;simp at hj
   | succ n ih=>
    intro j hj;simp only [Rp,Bg];by_cases h1:j<zero.length
    ·rw [fB h1,aP h1]
     congr 1;simp [Nat.mod_eq_of_lt h1]
    ·rw [iG (by omega),ih (j-zero.length) (by rw [Nat.succ_mul]at hj;omega)]
     congr 1
     simp only [Nat.mod_eq_sub_mod (show j>=zero.length by omega)]
  rw [e2 n j hj];simp [e1]
 ·rw [GH (by simp;omega),GH (by rw [hlen];omega)]
theorem Br(h:Rel P w0 U S w){t:TypeId}{l l' c c':Value}{K:VK}(hk:uS P t l c S K=true)(hl:VR U l l')(hc:VR U c c'):
 ∃U' v S' v' w',K v S'=true/\(Instr.makeSlice t l' c').run P w= .ok v' w'/\VR U' v v'/\Rel P w0 U' S' w'/\uI U w U' w':=by
 unfold uS at hk;split at hk
 ·rename_i k1 l k2 c
  rw [hl.of_flat rfl,hc.of_flat rfl];split at hk
  ·rename_i elem he
   have hu:=gI he;split at hk
   ·rename_i info zero hi hz
    split at hk
    ·rename_i q h1 h2 h3 h4 h5
     have h1:=aW h1;have h2:=aW h2;have h3:=aW h3;have h4:=cT h4;split at hk
     ·rename_i Ef
      obtain⟨zv,hzi,XB⟩:=Jl hz hi;have wC:zero≠[]:=by intro e;rw [e]at h4;simp at h4;omega
      have Bt:=GN zero zv.cells XB c wC
      have h2':(info.bytes:Int)*(c:Int)<=1099511627776:=by
       have:((info.bytes*c:Nat):Int)<=1099511627776:=by omega
       rwa [Int.natCast_mul]at this
      have hr:=run_make (P:=P) w t elem info zv hu hi hzi k1 k2 l c (by omega) (by omega) (by omega) (by omega);simp only [Int.toNat_natCast]at hr;have hm:madeCells zv.cells (c*info.size)=⟨(List.replicate c zero).flatten⟩:=by rw [<-Bt,h4];rfl
      split at hk
      ·rw [CL]at hk
       have Pg:lD U zero zero:= .flat (by rw [jZ]at Ef;exact dJ.1 Ef);obtain⟨U',S',w',hk,hw,g1,g2,L,hL,hb,hs⟩:=h.SE (Pg.flatten c) elem hk;refine⟨U',_,S',_,w',hk,hr.trans ?_,.Jk hL hb hs l c,g1,g2⟩;rw [hw,hm]
      ·obtain⟨U',S',w',hk,hw,g1,g2,L,hL,hb,hs⟩:=h.aJI (.cells ⟨(List.replicate c zero).flatten⟩ elem) hk
       refine⟨U',_,S',_,w',hk,hr.trans ?_,.Jk hL hb hs l c,g1,g2⟩;rw [hw,hm]
     ·cases hk
    ·cases hk
   ·cases hk
  ·cases hk
 ·cases hk
end
section
variable{P:Program}{w0:World}{U:Rn}{S:St}{w:World}
theorem XQ(h:Rel P w0 U S w){A:aO}{a:Act}(hA:xX P U A a){t:TypeId}{len:Nat}{parts:Array (Nat×Operand)}{K:VK}(hk:yJ P A t len parts.toList S K=true):
 ∃U' v S' v' w',K v S'=true/\(Instr.buildSlice t len (parts.map λp=>(p.1,a.eval p.2))).run P w= .ok v' w'/\VR U' v v'/\Rel P w0 U' S' w'/\uI U w U' w':=by
 unfold yJ at hk;split at hk
 ·rename_i elem he
  have hu:=gI he;split at hk
  ·rename_i size zero hsz hz
   split at hk
   ·rename_i h1 h2
    have h1:=aW h1;have h2:=cT h2;split at hk
    ·rename_i Ef
     have Pg:lD U zero zero:= .flat (by rw [jZ]at Ef;exact dJ.1 Ef);rw [CL]at hk;obtain⟨ps,hk,Ee⟩:=FH h hA hk;obtain⟨out,Nt,g1,g2,g3,_⟩:=IP (place':=λi=>some (i*(size+1),size+1)) (cells':=⟨(List.replicate len zero).flatten⟩) (by intro i q hq;exact hq) hk Ee (Pg.flatten len);obtain⟨U',S',w',hk,hw,r1,r2,L,hL,hb,hs⟩:=h.SE g3 elem g1;refine⟨U',_,S',_,w',hk,?_,.Jk hL hb hs len len,r1,r2⟩;obtain⟨zv,Hh,XB⟩:=BQ hz w;have wC:zero≠[]:=by intro e;rw [e]at h2;simp at h2
     have e2:(parts.map λp=>(p.1,a.eval p.2)).toList=parts.toList.map λp=>(p.1,a.eval p.2):=by simp
     have hc:¬len*(size+1)>2 ^ 24:=by omega
     rw [hw];by_cases h0:len*(size+1)=0
     ·have hl0:len=0:=by
       rcases Nat.mul_eq_zero.1 h0 with h0 | h0
       ·exact h0
       ·omega
      subst hl0;have e3:(⟨(List.replicate 0 zero).flatten⟩:Array Value)= #[]:=by simp
      rw [e3]at g2;have e4:∀f:Nat->Value,(Array.range 0).map f= #[]:=λf=>by simp
      simp only [Instr.buildSlice,bY,run_underlying hu,dU,gS hsz,KC,e4,e2,g2,newRow];rfl
     ·have Bt:=GN zero zv.cells XB len wC
      rw [h2]at Bt;simp only [Instr.buildSlice,bY,run_underlying hu,dU,gS hsz,if_neg hc,if_neg h0,Hh,jU,Bt,e2,g2,newRow];rfl
    ·cases hk
   ·cases hk
  ·cases hk
 ·cases hk
end
section
variable{P:Program}{w0:World}{U:Rn}{S:St}{w:World}
theorem Sh(l:List UInt8)(k:List Value->Bool):aGs l k=k (l.map λb=> .int .u8 (b.toNat:Int)):=by
 induction l generalizing k with
 | nil=>rfl
 | cons b l ih=>
  show cG b.toNat (λn=>aGs l λt=>k (.int .u8 (.ofNat n)::t))=_;rw [bA,ih];rfl
theorem Eg:∀{l:List Value} {k:List UInt8->Bool},aBM l k=true->∃ns:List Nat,k (ns.map UInt8.ofNat)=true/\l=ns.map (λn=> .int .u8 (.ofNat n)):=by
 intro l;induction l with
 | nil=>intro k hk;exact⟨[],hk,rfl⟩
 | cons v l ih=>
  intro k hk;unfold aBM at hk;rw [aS]at hk;split at hk
  ·rename_i n
   obtain⟨ns,h1,h2⟩:=ih (k:=λt=>k (UInt8.ofNat n::t)) hk;exact⟨n::ns,h1,by rw [h2];rfl⟩
  ·cases hk
theorem lD.aDA{l l':List Value}(h:lD U l l')(hf:∀v∈l,bE v=true):l'=l:=by
 apply uO;intro k;cases hk:l[k]? with
 | none=>exact h.get_none hk
 | some x=>
  obtain⟨x',Eh,hr⟩:=h.get hk;rw [Eh,hr.of_flat (hf x (wI hk))]
theorem Xr(h:Rel P w0 U S w){src dst:TypeId}{x x':Value}{K:VK}(hk:Ea P src dst x S K=true)(hx:VR U x x'):
 ∃U' v S' v' w',K v S'=true/\(convert src dst x').run P w= .ok v' w'/\VR U' v v'/\Rel P w0 U' S' w'/\uI U w U' w':=by
 unfold Ea at hk;split at hk
 ·rename_i kd n
  cases hx.of_flat rfl;split at hk
  ·rename_i d k hs hd
   unfold KD at hk;rw [nG,PL]at hk;refine⟨U,_,S,_,w,hk,?_,.flat rfl,h,.refl U w⟩;simp [convert,run_underlying hs,run_underlying hd,Conv.intToInt]
  ·cases hk
 ·rename_i s
  cases hx.of_flat rfl;split at hk
  ·rename_i hs hd
   refine⟨U,_,S,_,w,hk,?_,.flat rfl,h,.refl U w⟩;simp [convert,run_underlying hs,run_underlying hd]
  ·rename_i e hs hd
   split at hk
   ·rename_i he h1
    rw [Sh,kM,gZ]at hk;have Si:=grownCap_ge w s.size 0 e;generalize hcc:grownCap w s.size 0 e=cc at Si
    let bs:List Value:=s.data.toList.map (λb:UInt8=>Value.int .u8 (b.toNat:Int))
    let zs:List Value:=List.replicate (cc-s.size) (.int .u8 0)
    have hbl:bs.length=s.size:=by show(List.map _ _).length=_;rw [jB];rfl
    have Ph:zs.length=cc-s.size:=List.length_replicate;have aBP:bytesRow s cc=⟨bs++zs⟩:=by apply iR.1;simp [bytesRow,bs,zs]
    have hsz:(bytesRow s cc).size=cc:=by rw [aBP];show(bs++zs).length=_;rw [bH];omega
    have Nm:lD U bs bs:= .flat (by simp [bs,bE]);obtain⟨r1,r2⟩:=h.drew.Xs (more:=zs) Nm e h1 ((bytesRow s cc).size,(bytesRow s cc).size+1) (by intro x hx;rw [bH]at hx;omega) [] (by simp);have dF:=run_bytes_of_string w src dst e s hs hd he;rw [hcc,aBP]at dF;rw [aBP]at r1 r2;refine⟨_,_,_,_,_,hk,dF,?_,r1,(uI.drew U w).trans r2⟩;have hL:=Rn.kD U S.n ⟨w.drew.heap.size,0,(bs++zs).length,1⟩;have:=VR.oG (o:=0) (n:=s.size) (c:=s.size) (c':=cc) hL Si (bI _) (by simp only [bH];omega) Nat.one_pos;rw [jB];exact this
   ·cases hk
  ·cases hk
 ·rename_i n c
  cases hx.of_flat rfl;split at hk
  ·rename_i e hs hd
   split at hk
   ·rename_i he
    exact⟨U,_,S,_,w,hk,run_convert_bytes_nil w src e hs he _ _ dst hd,.flat rfl,h,.refl U w⟩
   ·cases hk
  ·cases hk
 ·rename_i i o sp len c
  split at hk
  ·cases hk
  ·rename_i e hs hd CW
   split at hk
   ·rename_i he
    rcases hx.jC with ⟨L,c',hL,rfl,_⟩ | ⟨⟨s1,h1⟩,rfl,rfl,_⟩
    ·obtain⟨vs,e',ck,ho,hle,hk⟩:=sL hk
     obtain⟨l',Sj,hlen,hc⟩:=h.yK ho hL hle;obtain⟨ns,hk,hns⟩:=Eg hk;rw [hns]at Sj;have aL3:l'=ns.map (λn=> .int .u8 (.ofNat n)):=Sj.aDA (by simp [bE]);refine⟨U,_,S,_,w,hk,?_,.flat rfl,h,.refl U w⟩;rw [run_convert_bytes_string w src dst e _ _ _ hs he hd];have Ei:=run_loadCells (P:=P) ⟨L.b,L.s+o,none⟩ l' hlen hc;rw [aL3]at Ei;have e1:(⟨ns.map (λn=>Value.int .u8 (.ofNat n))⟩:Array Value)=((ns.map Int.ofNat).map (Value.int .u8)).toArray:=by simp [List.map_map,Function.comp_def]
     rw [e1]at Ei;rw [run_bytesToString w _ _ _ _ Ei]
     congr 2
     have hf:∀(l:List Nat) (r:ByteArray),(l.map Int.ofNat).foldl (λr (n:Int)=>r.push (UInt8.ofNat n.toNat)) r=⟨r.data++(l.map UInt8.ofNat).toArray⟩:=by
      intro l;induction l with
      | nil=>intro r;simp
      | cons b l ih=>intro r;simp only [xU,PA,ih];simp [ByteArray.push]
     rw [hf];have he0:ByteArray.empty.data= #[]:=rfl;rw [he0];simp
    ·subst h1;exact absurd rfl (CW _)
   ·cases hk
  ·cases hk
 ·cases hk
end
end Go.Am
namespace Go.Am
open Go.RowKit Go.MapKept
section
variable{P:Program}{w0:World}{U:Rn}{S:St}{w:World}
theorem Rel.aJJ(h:Rel P w0 U S w){i:Nat}{o o':iP}(ho:S.obj i=some o)(hd:o.xY=false)(hr:o.reads=false)(Ej:o.olds=[]){L:Loc}(hL:U i=some L)(hb:w0.heap.size<=L.b)
 (aL4:o'.olds=[]) (ob:Obj) (pM:(w.putObj L.b ob).heap[L.b]? =some ob->BR P w0 U (w.putObj L.b ob) i o'):Rel P w0 U (S.set i o') (w.putObj L.b ob)/\uI U w U (w.putObj L.b ob):=by
 have hlt:=h.loc i L hL;have pM:=pM (World.putObj_heap_same hlt)
 have wC:∀j x,j≠i->S.obj j=some x->x.xY=false->∀M,U j=some M->M.b≠L.b:=by
  intro j x Sl hx hxd M hM e;rcases h.sep i j o x L M (dB Sl) ho hx hd hxd hL hM e.symm with ⟨h1,_⟩ | h1 | h1
  ·rw [hr]at h1;cases h1
  ·rw [Ej]at h1;cases h1
  ·cases x with
   | cells vs t k=>
    cases k with
    | grown olds=>
     obtain⟨_,h2⟩:=h.old j vs t olds hx i h1;rcases h2 o ho with h3 | ⟨ws,t',h3,_⟩
     ·rw [h3]at hd;cases hd
     ·rw [h3]at hr;cases hr
    | _=>cases h1
   | _=>cases h1
 have zU:∀j x,(S.set i o').obj j=some x->(j=i/\x=o')\/(j≠i/\S.obj j=some x):=λj x hx=>by
  rw [CM]at hx;by_cases e:j=i
  ·rw [if_pos e]at hx;injection hx with hx;exact .inl ⟨e,hx.symm⟩
  ·rw [if_neg e]at hx;exact .inr ⟨e,hx⟩
 refine h.aM (S':=S.set i o') hb ⟨i,L,hL,rfl⟩ rfl (putObj_size _ _) (λc hc=>iA hc) rfl rfl rfl (λj x hx=>?_) (λa b x y M N hab hx hy hxd hyd hM hN Gk=>?_) (λj vs e olds hj q hq=>?_)
 ·rcases zU j x hx with ⟨rfl,rfl⟩ | ⟨e,hx⟩
  ·exact .inr (.inr ⟨h.lt j o ho,pM⟩)
  ·cases hxd:x.xY with
   | true=>exact .inl ⟨rfl,h.lt j x hx⟩
   | false=>exact .inr (.inl ⟨hx,wC j x e hx hxd⟩)
 ·rcases zU a x hx with ⟨e1,_⟩ | ⟨ea,VJ⟩<;>rcases zU b y hy with ⟨e2,_⟩ | ⟨eb,hy1⟩
  ·exact absurd (e1.trans e2.symm) hab
  ·rw [e1,hL]at hM;injection hM with hM;subst hM;exact absurd Gk.symm (wC b y eb hy1 hyd N hN)
  ·rw [e2,hL]at hN;injection hN with hN;subst hN;exact absurd Gk (wC a x ea VJ hxd M hM)
  ·exact h.sep a b x y M N hab VJ hy1 hxd hyd hM hN Gk
 ·rcases zU j _ hj with ⟨rfl,e2⟩ | ⟨e,hj⟩
  ·rw [<-e2]at aL4;simp only [iP.olds]at aL4;subst aL4;cases hq
  ·obtain⟨h1,h2⟩:=h.old j vs _ olds hj q hq
   refine⟨h1,λx hx=>?_⟩;rcases zU q x hx with ⟨rfl,rfl⟩ | ⟨e',hx⟩
   ·rcases h2 o ho with h3 | ⟨ws,t',h3,_⟩
    ·rw [h3]at hd;cases hd
    ·rw [h3]at hr;cases hr
   ·exact h2 x hx
theorem GD{m:Value}{k:Option Nat->List MapEntry->Nat->Bool}(hk:Ry S m k=true):
 (m= .map none/\k none [] 0=true)\/∃r es c,m= .map (some r)/\S.obj r=some (.map es c)/\k (some r) es c=true:=by
 unfold Ry at hk;split at hk
 ·exact .inl ⟨rfl,hk⟩
 ·rename_i r
  rw [lV]at hk;cases ho:S.h.get r with
  | none=>rw [ho]at hk;cases hk
  | some o=>
   rw [ho]at hk;cases o with
   | map es c=>exact .inr ⟨r,es,c,rfl,ho,hk⟩
   | _=>cases hk
 ·cases hk
theorem VR.FI{r:Nat}{v':Value}(h:VR U (.map (some r)) v'):∃L,U r=some L/\v'= .map (some L.b):=by
 cases h with
 | flat h=>simp [bE]at h
 | map h=>exact⟨_,h,rfl⟩
theorem Rel.map(h:Rel P w0 U S w){r:Nat}{es:List MapEntry}{c:Nat}(ho:S.obj r=some (.map es c)){L:Loc}(hL:U r=some L):∃iW,w0.heap.size<=L.b/\w.heap[L.b]? =some (.map iW c)/\gA U es iW.toList:=by
 obtain⟨M,iW,h1,h2,h3,h4⟩:=h.GO r _ ho;rw [hL]at h1;injection h1 with h1;subst h1;exact⟨iW,h2,h3,h4⟩
theorem XR{t:TypeId}(h:qV P t=true):MO P t=none:=by
 cases hs:MO P t with
 | none=>rfl
 | some fs=>obtain⟨hu,_⟩:=CY hs;unfold qV at h;rw [hu]at h;cases h
theorem Sm{t:TypeId}(h:qV P t=true){a b:Value}{k:Bool->Bool}(hk:DZ P t a b k=true):tY P t a b k=true:=by
 unfold DZ at hk;split at hk
 ·unfold oX at hk
  simp only [XR h]at hk;cases hk
 ·exact hk
theorem Xt{t:TypeId}{kd:TypeDesc}(hu:P.underlying t=some kd){a b:Value}{k:Bool->Bool}(hk:tY P t a b k=true):∃e,k e=true/\Instr.sameNow kd a b=some e:=by
 unfold tY at hk;rw [hu]at hk;split at hk
 ·rename_i q hq
  injection hq with hq;subst hq;split at hk
  ·rename_i j x l y
   split at hk
   ·rename_i hj
    have:=GP hj;subst this;rw [oQ,uV]at hk;exact⟨_,hk,by simp [Instr.sameNow]⟩
   ·cases hk
  ·cases hk
 ·rename_i hq
  injection hq with hq;subst hq;split at hk
  ·rename_i x y
   rw [oQ,FJ]at hk
   have e:(x==y)=(x.data.toList==y.data.toList):=by
    rw [qU,bytes_beq,beq_iff_eq];exact⟨λh=>by rw [h],λh=>ByteArray.ext (iR.1 h)⟩
   exact⟨_,hk,by rw [<-e];rfl⟩
  ·cases hk
 ·rename_i hq
  injection hq with hq;subst hq;split at hk
  ·rw [oQ]at hk
   exact⟨_,hk,rfl⟩
  ·cases hk
 ·cases hk
def findAux(P:Program)(t:TypeId)(key:Value)(k:Option (Nat×MapEntry)->Bool)(es:List MapEntry):Nat->Bool:=
 fS (β:=Nat->Bool) (λ_=>k none) (λe _ ih i=>DZ P t key e.key λb=>match b with | true=>k (some (i,e)) | false=>cG (Nat.succ i) ih) es
def Pi(i:Nat)(l l':List MapEntry)(r:Option (Nat×MapEntry))(r':Option (Nat×Value)):Prop:=
 (r=none/\r'=none)\/∃j e e',r=some (i+j,e)/\l[j]? =some e/\l'[j]? =some e'/\r'=some (i+j,e'.val)
theorem gA.cons_inv{e:MapEntry}{l l':List MapEntry}(h:gA U (e::l) l'):∃e' t',l'=e'::t'/\PM U e e'/\gA U l t':=by
 cases l' with
 | nil=>have:=h.1;simp at this
 | cons e' t'=>exact⟨e',t',rfl,h.2 0 e e' rfl rfl,by simpa using h.1,λk x y a b=>h.2 (k+1) x y (by simpa using a) (by simpa using b)⟩
theorem Pi.step{i:Nat}{e e':MapEntry}{l l':List MapEntry}{r:Option (Nat×MapEntry)}{r':Option (Nat×Value)}(h:Pi (i+1) l l' r r'):Pi i (e::l) (e'::l') r r':=by
 rcases h with h | ⟨j,x,x',h1,h2,h3,h4⟩
 ·exact .inl h
 ·exact .inr ⟨j+1,x,x',by rw [h1];congr 2;omega,by simpa using h2,by simpa using h3,by rw [h4];congr 2;omega⟩
theorem Nu{t:TypeId}{kd:TypeDesc}(hp:qV P t=true)(hu:P.underlying t=some kd){key:Value}{k:Option (Nat×MapEntry)->Bool}:∀(l l':List MapEntry) (i:Nat),findAux P t key k l i=true->gA U l l'->
 ∃r r',k r=true/\Instr.findNow kd key l' i=some r'/\Pi i l l' r r':=by
 intro l;induction l with
 | nil=>
  intro l' i hk hl;have:l'=[]:=mS (by simpa using hl.1.symm);subst this;exact⟨none,none,hk,rfl,.inl ⟨rfl,rfl⟩⟩
 | cons e l ih=>
  intro l' i hk hl;obtain⟨e',t',rfl,he,ht⟩:=hl.cons_inv;obtain⟨b,hb,hs⟩:=Xt hu (Sm hp (show DZ P t key e.key (λb=>match b with | true=>k (some (i,e)) | false=>cG (Nat.succ i) (findAux P t key k l))=true from hk));rw [<-he.1]at hs;cases b with
  | true=>exact⟨_,_,hb,by simp only [Instr.findNow,hs];rfl,.inr ⟨0,e,e',rfl,rfl,rfl,rfl⟩⟩
  | false=>
   simp only [bA]at hb;obtain⟨r,r',h1,h2,h3⟩:=ih t' (i+1) hb ht;exact⟨r,r',h1,by simp only [Instr.findNow,hs,h2],h3.step⟩
theorem Jm{t:TypeId}{fs:List Field}(hp:MO P t=some fs){key:Value}(uW:jV key=true){xs:Array Value}(hx:key= .agg xs){k:Option (Nat×MapEntry)->Bool}:∀(l l':List MapEntry) (i:Nat),
 findAux P t key k l i=true->gA U l l'->∃r r',k r=true/\(∀w,(Instr.findAsking t key l' i).run P w= .ok r' w)/\Pi i l l' r r':=by
 intro l;induction l with
 | nil=>
  intro l' i hk hl;have:l'=[]:=mS (by simpa using hl.1.symm);subst this;exact⟨none,none,hk,λw=>rfl,.inl ⟨rfl,rfl⟩⟩
 | cons e l ih=>
  intro l' i hk hl;obtain⟨e',t',rfl,he,ht⟩:=hl.cons_inv;have hk:DZ P t key e.key (λb=>match b with | true=>k (some (i,e)) | false=>cG (Nat.succ i) (findAux P t key k l))=true:=hk
  have hk:oX P t key e.key (λb=>match b with | true=>k (some (i,e)) | false=>cG (Nat.succ i) (findAux P t key k l))=true:=by
   unfold DZ at hk;split at hk
   ·exact hk
   ·unfold tY at hk
    rw [(CY hp).1]at hk;cases hk
  obtain⟨b,hb,hs,_⟩:=MP (U:=U) hk (VR.jV uW) (VR.jV he.2.1);rw [<-he.1]at hs;cases b with
  | true=>exact⟨_,_,hb,λw=>by simp [Instr.findAsking,hs],.inr ⟨0,e,e',rfl,rfl,rfl,rfl⟩⟩
  | false=>
   simp only [bA]at hb;obtain⟨r,r',h1,h2,h3⟩:=ih t' (i+1) hb ht;exact⟨r,r',h1,λw=>by simp [Instr.findAsking,hs,h2],h3.step⟩
theorem xZ{t:TypeId}{key:Value}(h:NV P t key=true):jV key=true/\(qV P t=true\/qV P t=false/\∃fs cs,MO P t=some fs/\key= .agg cs/\fs.length<=cs.toList.length):=by
 unfold NV at h;split at h
 ·rename_i hf
  refine⟨hf,?_⟩;split at h
  ·exact .inl (by assumption)
  ·rename_i h1
   split at h
   ·rename_i fs cs h2
    exact .inr ⟨h1,fs,cs,h2,rfl,aW h⟩
   ·cases h
 ·cases h
theorem IQ{t:TypeId}{key:Value}(uW:NV P t key=true){l l':List MapEntry}{k:Option (Nat×MapEntry)->Bool}(hk:Eb P t key l k=true)(hl:gA U l l'):
 ∃r r',k r=true/\(∀w,(Instr.findKey t key l').run P w= .ok r' w)/\Pi 0 l l' r r':=by
 have hk:findAux P t key k l 0=true:=hk;obtain⟨hf,hp | ⟨_,fs,cs,hs,hc,_⟩⟩:=xZ uW
 ·cases hu:P.underlying t with
  | none=>unfold qV at hp;rw [hu]at hp;cases hp
  | some kd=>
   obtain⟨r,r',h1,h2,h3⟩:=Nu hp hu l l' 0 hk hl;exact⟨r,r',h1,λw=>run_findKey hu h2,h3⟩
 ·obtain⟨r,r',h1,h2,h3⟩:=Jm hs hf hc l l' 0 hk hl
  refine⟨r,r',h1,λw=>?_,h3⟩;have hu:=(CY hs).1;cases l' with
  | nil=>
   have h2:=h2 w;simp only [Instr.findAsking,jU]at h2;injection h2 with h2;rw [<-h2];exact run_findKey hu rfl
  | cons e l'=>
   simp only [Instr.findKey,bY,run_underlying hu,dU];have:Instr.findNow (.struct (P.fieldsOf t)) key (e::l') 0=none:=by simp [Instr.findNow,Instr.sameNow]
   rw [this];exact h2 w
theorem PN{t:TypeId}(hp:qV P t=true)(em:Bool)(n:Nat)(v:Value)(w:World):(Instr.checkKey em (n+1) t v).run P w= .ok () w:=by
 unfold qV at hp;split at hp<;>first | (cases hp;done) | (rename_i hu;cases v<;>simp [Instr.checkKey,run_underlying hu])
theorem Xu(em:Bool)(n:Nat)(cs:Array Value)(w:World):∀(fs:List Field) (i:Nat),uT P i fs=true->i+fs.length<=cs.toList.length->
 (forIn fs PUnit.unit (λf (_:PUnit)=>do
  if f.name≠ "_" then Instr.checkKey em (n+1) f.type (<-part f.type cs f.offset)
  pure (ForInStep.yield PUnit.unit):Field->PUnit->Sem (ForInStep PUnit))).run P w= .ok PUnit.unit w:=by
 intro fs;induction fs with
 | nil=>intro i _ _;rfl
 | cons f fs ih=>
  intro i hp hl;simp only [uT,bW,beq_iff_eq,bne_iff_ne]at hp;obtain⟨⟨⟨aDB,aEM⟩,rY⟩,uX⟩:=hp;simp only [qS]at hl;have hlt:i<cs.toList.length:=by omega
  have hg:cs.toList[i]? =some cs.toList[i]:=aP hlt;simp only [List.forIn_cons,bY,aDB,ne_eq,not_false_eq_true,if_true,aEM,PO rY hg,dU,PN rY,jU];exact ih (i+1) uX (by omega)
theorem iS{t:TypeId}{key:Value}(uW:NV P t key=true)(em:Bool)(w:World):(Instr.checkKey em 10000 t key).run P w= .ok () w:=by
 obtain⟨hf,hp | ⟨_,fs,cs,hs,rfl,hlen⟩⟩:=xZ uW
 ·exact PN hp em 9999 key w
 ·obtain⟨hu,h2,h3,_,_⟩:=CY hs
  show(Instr.checkKey em (9999+1) t (.agg cs)).run P w=_;unfold Instr.checkKey;simp only [bY,run_underlying hu,dU];have:=Xu (P:=P) em 9998 cs w fs 0 h3 (by omega);rw [<-h2,Array.forIn_toList]at this;rw [this];rfl
end
section
variable{P:Program}{w0:World}{U:Rn}{S:St}{w:World}
theorem PQ{n:Nat}{a b:Value}(ha:bE a=true)(hb:bE b=true)(h:Instr.sameBits n a b=true):a=b:=by
 cases a<;>first | (simp [bE]at ha;done) | skip
 all_goals (cases b<;>first | (simp [bE]at hb;done) | (simp [Instr.sameBits]at h;done) | skip)
 all_goals first
  | rfl
  | (simp [Instr.sameBits]at h;simp [h];done)
  | (rw [Instr.sameBits,bytes_beq]at h;rw [h];done)
  | (rename_i x y;cases x<;>cases y<;>first | rfl | (simp [bE]at ha;done) | (simp [bE]at hb;done))
theorem PR{n:Nat}{a b:Value}(ha:jV a=true)(hb:jV b=true)(h:Instr.sameBits (n+1) a b=true):a=b:=by
 by_cases hA:∃x,a= .agg x
 ·obtain⟨x,rfl⟩:=hA
  cases b with
  | agg y=>
   simp only [Instr.sameBits,bW,beq_iff_eq]at h;obtain⟨hs,h⟩:=h;have ha:∀v∈x.toList,bE v=true:=dJ.1 ha;have hb:∀v∈y.toList,bE v=true:=dJ.1 hb;have hs:x.toList.length=y.toList.length:=hs
   have h:∀(l m:List Value),l.length=m.length->(∀v∈l,bE v=true)->(∀v∈m,bE v=true)->((l.zip m).all λ(a,b)=>Instr.sameBits n a b)=true->l=m:=by
    intro l;induction l with
    | nil=>intro m hm _ _ _;exact(mS (by simpa using hm.symm)).symm
    | cons a l ih=>
     intro m hm h1 h2 h3;cases m with
     | nil=>simp at hm
     | cons b m=>
      simp only [List.zip_cons_cons,PD,bW]at h3;rw [PQ (h1 a (.head _)) (h2 b (.head _)) h3.1,ih m (by simpa using hm) (λv hv=>h1 v (.tail _ hv)) (λv hv=>h2 v (.tail _ hv)) h3.2]
   rw [iR.1 (h _ _ hs ha hb (by assumption))]
  | _=>simp [Instr.sameBits]at h
 ·have fa:bE a=true:=by cases a<;>first | exact ha | exact absurd ⟨_,rfl⟩ hA
  by_cases hB:∃x,b= .agg x
  ·obtain⟨x,rfl⟩:=hB
   cases a<;>first | (simp [Instr.sameBits]at h;done) | exact absurd ⟨_,rfl⟩ hA
  ·have fb:bE b=true:=by cases b<;>first | exact hb | exact absurd ⟨_,rfl⟩ hB
   exact PQ fa fb h
theorem gA.aBQ{l l':List MapEntry}(h:gA U l l'){i:Nat}{e e' x:MapEntry}(hi:l[i]? =some e)(TB:l'[i]? =some e')(f:MapEntry->MapEntry)(hx:PM U x (f e')):gA U (l.set i x) (l'.modify i f):=by
 refine⟨by simp [h.1],λk a b ha hb=>?_⟩;rw [Iv]at ha;rw [List.getElem?_modify]at hb;by_cases hk:i=k
 ·subst hk
  have:=(dS.1 hi).1;rw [if_pos rfl,if_pos this]at ha;rw [TB]at hb;simp at ha hb;subst ha hb;exact hx
 ·rw [if_neg hk]at ha
  cases hl:l'[k]? with
  | none=>rw [hl]at hb;cases hb
  | some y=>rw [hl]at hb;simp [hk]at hb;subst hb;exact h.2 k a y ha hl
theorem gA.aPN{l l':List MapEntry}(h:gA U l l'){i:Nat}{e e':MapEntry}(hi:l[i]? =some e)(TB:l'[i]? =some e')(f:MapEntry->MapEntry)(hx:PM U e (f e')):gA U l (l'.modify i f):=by
 have:=h.aBQ hi TB f hx
 have e1:l.set i e=l:=by
  apply uO;intro k;rw [Iv];split
  ·rename_i hk;subst hk;split
   ·exact hi.symm
   ·rename_i hl;exact absurd (dS.1 hi).1 hl
  ·rfl
 rwa [e1]at this
theorem gA.push{l l':List MapEntry}(h:gA U l l'){e e':MapEntry}(he:PM U e e'):gA U (l++[e]) (l'++[e']):=by
 refine⟨by simp [h.1],λk a b ha hb=>?_⟩;by_cases hk:k<l.length
 ·rw [fB hk]at ha
  rw [fB (by rw [<-h.1];exact hk)]at hb;exact h.2 k a b ha hb
 ·rw [iG (by omega)]at ha
  rw [iG (by rw [<-h.1];omega),<-h.1]at hb
  have:k-l.length=0:=by
   have:=(dS.1 ha).1;simpa using this
  rw [this]at ha hb;simp at ha hb;subst ha hb;exact he
theorem gA.erase{l l':List MapEntry}(h:gA U l l')(i:Nat):gA U (l.eraseIdx i) (l'.eraseIdx i):=by
 refine⟨by simp [List.length_eraseIdx,h.1],λk a b ha hb=>?_⟩;rw [List.getElem?_eraseIdx]at ha hb;split at ha
 ·rename_i hk;rw [if_pos hk]at hb;exact h.2 k a b ha hb
 ·rename_i hk;rw [if_neg hk]at hb;exact h.2 _ a b ha hb
theorem yL{t kt et:TypeId}(h:EA P t=some (kt,et)):P.underlying t=some (.map kt et):=by
 unfold EA at h;split at h
 ·rename_i hu;injection h with h;injection h with h1 h2;subst h1 h2;exact hu
 ·cases h
theorem Bu{t:TypeId}{z:Value}(h:zeroV P t=some z)(w:World):(zeroValue t).run P w= .ok z w:=by
 unfold zeroV at h;cases hi:P.info? t with
 | none=>rw [hi]at h;cases h
 | some i=>rw [hi]at h;simp [zeroValue,aGv hi,show i.zero=some z from h]
theorem VR.key{kt:TypeId}{key Jn:Value}(h:VR U key Jn)(hk:NV P kt key=true):Jn=key:=h.Xv (xZ hk).1
theorem TV(h:Rel P w0 U S w){t:TypeId}{x x' ix ix':Value}{ok:Bool}{K:VK}(hk:SD P t x ix ok S K=true)(hx:VR U x x')(hi:VR U ix ix'):
 ∃v v',K v S=true/\VR U v v'/\(Instr.lookup t x' ix' ok).run P w= .ok v' w:=by
 unfold SD at hk;split at hk
 ·rename_i kt et hm
  have hu:=yL hm;split at hk
  ·rename_i zero uW hz
   rw [hi.key uW]
   have main:∀(es:List MapEntry) (iW:Array MapEntry),gA U es iW.toList->Eb P kt ix es (λr=>match r with
    | some (_,e)=>match(generalizing:=false) ok with | true=>K (.tuple ⟨[e.val,.bool true]⟩) S | false=>K e.val S
    | none=>match jV zero with
     | true=>match(generalizing:=false) ok with | true=>K (.tuple ⟨[zero,.bool false]⟩) S | false=>K zero S
     | false=>false)=true->
    ∃v v',K v S=true/\VR U v v'/\(do
     Instr.checkKey iW.isEmpty 10000 kt ix
     let(v,o)<-match<-Instr.findKey kt ix iW.toList with
      | some (_,v)=>pure (v,true)
      | none=>pure (<-zeroValue et,false)
     pure (if ok then .tuple #[v,.bool o]else v):Sem Value).run P w= .ok v' w:=by
    intro es iW SF hk;obtain⟨r,r',hk,dF,hr⟩:=IQ uW hk SF;rcases hr with ⟨rfl,rfl⟩ | ⟨j,e,e',rfl,h1,h2,rfl⟩
    ·simp only at hk
     split at hk
     ·rename_i hfz
      have Pg:VR U zero zero:=VR.jV hfz;cases ok with
      | true=>exact⟨_,_,hk,.rI (.cons Pg (.cons (.flat rfl) (.nil U))),by simp [iS uW,dF,Bu hz]⟩
      | false=>exact⟨_,_,hk,Pg,by simp [iS uW,dF,Bu hz]⟩
     ·cases hk
    ·have hv:=(SF.2 j e e' h1 h2).2.2.2
     cases ok with
     | true=>exact⟨_,_,hk,.rI (.cons hv (.cons (.flat rfl) (.nil U))),by simp [iS uW,dF]⟩
     | false=>exact⟨_,_,hk,hv,by simp [iS uW,dF]⟩
   rcases GD hk with ⟨rfl,tZ⟩ | ⟨r,es,c,rfl,ho,tZ⟩
   ·cases hx.of_flat rfl
    obtain⟨v,v',h1,h2,h3⟩:=main [] #[] ⟨rfl,by simp⟩ tZ;refine⟨v,v',h1,h2,?_⟩;rw [<-h3];simp [Instr.lookup,run_underlying hu];rfl
   ·obtain⟨L,hL,rfl⟩:=hx.FI
    obtain⟨iW,_,hb,SF⟩:=h.map ho hL;obtain⟨v,v',h1,h2,h3⟩:=main es iW SF tZ;refine⟨v,v',h1,h2,?_⟩;rw [<-h3];simp [Instr.lookup,run_underlying hu,MapKept.run_getObj_map hb];rfl
  ·cases hk
 ·cases hk
theorem Rel.VL(h:Rel P w0 U S w){r:Nat}{es:List MapEntry}{c:Nat}(ho:S.obj r=some (.map es c)){L:Loc}(hL:U r=some L){o:Obj}(hb:w.heap[L.b]? =some o)(uY:w0.heap.size<=L.b){es2:List MapEntry}{Jo:Array MapEntry}{c2:Nat}(he:gA U es2 Jo.toList)
 (hob:∃iW c',o= .map iW c'):∃w',(setObj L.b (.map Jo c2)).run P w= .ok () w'/\Rel P w0 U (S.set r (.map es2 c2)) w'/\uI U w U w':=by
 obtain⟨iW,c',rfl⟩:=hob;obtain⟨r1,r2⟩:=h.aJJ (o':= .map es2 c2) ho rfl rfl rfl hL uY rfl (.map Jo c2) (λhh=>⟨L,Jo,hL,uY,hh,he⟩);exact⟨_,MapKept.run_setObj_map _ hb,r1,r2⟩
theorem Pj{a b:Value}(h:Instr.sameBits 10000 a b=true)(w:World):(Instr.keyThatStays a b).run P w= .ok b w:=by simp [Instr.keyThatStays,h]
theorem LC(h:Rel P w0 U S w){t:TypeId}{m m' key Jn x x':Value}{k:St->Bool}(hk:BP P t m key x S k=true)(hm:VR U m m')(Xw:VR U key Jn)(hx:VR U x x'):
 ∃S' w',k S'=true/\Rel P w0 U S' w'/\uI U w U w'/\(Instr.mapUpdate t m' Jn x').run P w= .ok () w':=by
 unfold BP at hk;split at hk
 ·rename_i kt et hmt
  have hu:=yL hmt;split at hk
  ·rename_i uW
   rw [Xw.key uW];rcases GD hk with ⟨rfl,tZ⟩ | ⟨r,es,c,rfl,ho,tZ⟩
   ·cases tZ
   ·obtain⟨L,hL,rfl⟩:=hm.FI
    obtain⟨iW,uY,hb,SF⟩:=h.map ho hL;have hk:=tZ;simp only at hk;obtain⟨q,q',hk,dF,hr⟩:=IQ uW hk SF;rcases hr with ⟨rfl,rfl⟩ | ⟨j,e,e',rfl,h1,h2,rfl⟩
    ·simp only [lE,bA,gR]at hk
     obtain⟨w',hw,r1,r2⟩:=h.VL (P:=P) ho hL hb uY (es2:=es++[{key:=key,val:=x,born:=c}]) (Jo:=iW.push {key:=key,val:=x',born:=c}) (c2:=c+1)
      (by rw [Array.toList_push];exact SF.push ⟨rfl,(xZ uW).1,rfl,hx⟩) ⟨_,_,rfl⟩
     exact⟨_,w',hk,r1,r2,by simp [Instr.mapUpdate,run_underlying hu,MapKept.run_getObj_map hb,iS uW,dF,hw]⟩
    ·simp only [gB]at hk
     split at hk
     ·rename_i hsb
      rw [Jp,gR]at hk;have hrel:=SF.2 j e e' h1 h2;have hee:e.key=key:=PR hrel.2.1 (xZ uW).1 hsb
      obtain⟨w',hw,r1,r2⟩:=h.VL (P:=P) ho hL hb uY (es2:=es.set j {e with val:=x}) (Jo:=iW.modify j λe=>{e with key:=key,val:=x'}) (c2:=c)
       (by rw [aBJ];exact SF.aBQ h1 h2 _ ⟨hee.symm,hrel.2.1,hrel.2.2.1,hx⟩) ⟨_,_,rfl⟩
      refine⟨_,w',hk,r1,r2,?_⟩;have h2':iW[j]? =some e':=by simpa using h2
      have:Instr.sameBits 10000 e'.key key=true:=by rw [hrel.1];exact hsb
      simp [Instr.mapUpdate,run_underlying hu,MapKept.run_getObj_map hb,iS uW,dF,h2',Pj this,hw]
     ·cases hk
  ·cases hk
 ·cases hk
theorem Rel.same(h:Rel P w0 U S w){O:St}(ho:∀j,S.obj j=O.obj j)(hn:S.n=O.n):Rel P w0 U O w:=
 ⟨h.Gl,λi o hi=>h.GO i o ((ho i).trans hi),λi hi=>h.Xc i (by omega),λi o hi=>by rw [<-hn];exact h.lt i o ((ho i).trans hi),h.loc,
  λi j a b L M XS ha hb=>h.sep i j a b L M XS ((ho i).trans ha) ((ho j).trans hb),
  λj vs e olds hj i hi=>by rw [<-hn];obtain⟨h1,h2⟩:=h.old j vs e olds ((ho j).trans hj) i hi;exact⟨h1,λo hx=>h2 o ((ho i).trans hx)⟩,h.base⟩
theorem Gm(h:Rel P w0 U S w){t:TypeId}{m m' key Jn:Value}{K:VK}(hk:Bp P t m key S K=true)(hm:VR U m m')(Xw:VR U key Jn):
 ∃v S' v' w',K v S'=true/\VR U v v'/\Rel P w0 U S' w'/\uI U w U w'/\(Instr.mapEntry t m' Jn).run P w= .ok v' w':=by
 unfold Bp at hk;split at hk
 ·rename_i kt et hmt
  have hu:=yL hmt;split at hk
  ·rename_i zero uW hz
   rw [Xw.key uW];rcases GD hk with ⟨rfl,tZ⟩ | ⟨r,es,c,rfl,ho,tZ⟩
   ·cases tZ
   ·obtain⟨L,hL,rfl⟩:=hm.FI
    obtain⟨iW,uY,hb,SF⟩:=h.map ho hL;have hk:=tZ;simp only at hk;obtain⟨q,q',hk,dF,hr⟩:=IQ uW hk SF;rcases hr with ⟨rfl,rfl⟩ | ⟨j,e,e',rfl,h1,h2,rfl⟩
    ·simp only at hk
     split at hk
     ·rename_i hfz
      simp only [lE,bA,gR]at hk
      obtain⟨w',hw,r1,r2⟩:=h.VL (P:=P) ho hL hb uY (es2:=es++[{key:=key,val:=zero,born:=c}]) (Jo:=iW.push {key:=key,val:=zero,born:=c}) (c2:=c+1)
       (by rw [Array.toList_push];exact SF.push ⟨rfl,(xZ uW).1,rfl,VR.jV hfz⟩) ⟨_,_,rfl⟩
      exact⟨_,_,_,w',hk,.rI (.cons (VR.jV hfz) (.cons (.flat rfl) (.nil U))),r1,r2,by simp [Instr.mapEntry,run_underlying hu,MapKept.run_getObj_map hb,iS uW,dF,Bu hz,hw];rfl⟩
     ·cases hk
    ·dsimp only at hk
     split at hk
     ·rename_i hsb
      have hrel:=SF.2 j e e' h1 h2;have hee:e.key=key:=PR hrel.2.1 (xZ uW).1 hsb
      obtain⟨w',hw,r1,r2⟩:=h.VL (P:=P) ho hL hb uY (es2:=es) (Jo:=iW.modify j λe=>{e with key:=key}) (c2:=c)
       (by rw [aBJ];exact SF.aPN h1 h2 _ ⟨hee.symm,hrel.2.1,hrel.2.2.1,hrel.2.2.2⟩) ⟨_,_,rfl⟩
      have BS:S.set r (.map es c)=S.set r (.map es c):=rfl;refine⟨_,S,_,w',hk,.rI (.cons hrel.2.2.2 (.cons (.flat rfl) (.nil U))),?_,r2,?_⟩
      ·exact r1.same (λj=>by
        rw [CM];split
        ·rename_i e;subst e;exact ho.symm
        ·rfl) rfl
      ·have h2':iW[j]? =some e':=by simpa using h2
       have:Instr.sameBits 10000 e'.key key=true:=by rw [hrel.1];exact hsb
       simp [Instr.mapEntry,run_underlying hu,MapKept.run_getObj_map hb,iS uW,dF,h2',Pj this,hw,goInt,hrel.2.2.1]
     ·cases hk
  ·cases hk
 ·cases hk
end
section
variable{P:Program}{w0:World}{U:Rn}{S:St}{w:World}
def IR(n:Nat)(k:Nat->MapEntry->Bool)(es:List MapEntry):Nat->Bool:=
 fS (β:=Nat->Bool) (λ_=>false) (λe _ ih i=>match Nat.beq e.born n with | true=>k i e | false=>cG (Nat.succ i) ih) es
theorem TW{n:Nat}{k:Nat->MapEntry->Bool}:∀(l l':List MapEntry) (i:Nat),IR n k l i=true->gA U l l'->
 ∃j e e',k (i+j) e=true/\l[j]? =some e/\l'[j]? =some e'/\l'.findIdx? (λe=>(e.born:Int)==(n:Int))=some j:=by
 intro l;induction l with
 | nil=>intro l' i hk _;cases hk
 | cons e l ih=>
  intro l' i hk hl;obtain⟨e',t',rfl,he,ht⟩:=hl.cons_inv;have hk:(match(generalizing:=false) Nat.beq e.born n with | true=>k i e | false=>cG (Nat.succ i) (IR n k l))=true:=hk;split at hk
  ·rename_i hb
   have hb:=cT hb;exact⟨0,e,e',hk,rfl,rfl,by simp [List.findIdx?_cons,he.2.2.1,hb]⟩
  ·rename_i hb
   have hb:=OX hb;rw [bA]at hk;obtain⟨j,x,x',h1,h2,h3,h4⟩:=ih t' (i+1) hk ht;refine⟨j+1,x,x',by rw [<-h1];congr 1;omega,by simpa using h2,by simpa using h3,?_⟩;have:((e'.born:Int)==(n:Int))=false:=by rw [he.2.2.1,beq_eq_false_iff_ne];omega
   simp [List.findIdx?_cons,this,h4]
theorem XT(h:Rel P w0 U S w){t:TypeId}{m m' s s' x x':Value}{k:St->Bool}(hk:PJ m s x S k=true)(hm:VR U m m')(hs:VR U s s')(hx:VR U x x'):
 ∃S' w',k S'=true/\Rel P w0 U S' w'/\uI U w U w'/\(Instr.entryStore t m' s' x').run P w= .ok () w':=by
 unfold PJ at hk;split at hk
 ·rename_i kd n
  cases hs.of_flat rfl;rcases GD hk with ⟨rfl,tZ⟩ | ⟨r,es,c,rfl,ho,tZ⟩
  ·cases tZ
  ·obtain⟨L,hL,rfl⟩:=hm.FI
   obtain⟨iW,uY,hb,SF⟩:=h.map ho hL;have hk:=tZ;simp only at hk;obtain⟨j,e,e',hk,h1,h2,h3⟩:=TW es iW.toList 0 hk SF;rw [Jp,gR,gB]at hk;have hrel:=SF.2 j e e' h1 h2
   obtain⟨w',hw,r1,r2⟩:=h.VL (P:=P) ho hL hb uY (es2:=es.set j {e with val:=x}) (Jo:=iW.modify j λe=>{e with val:=x'}) (c2:=c)
    (by rw [aBJ];exact SF.aBQ h1 h2 _ ⟨hrel.1,hrel.2.1,hrel.2.2.1,hx⟩) ⟨_,_,rfl⟩
   refine⟨_,w',hk,r1,r2,?_⟩;have h3':iW.findIdx? (λe=>(e.born:Int)==(n:Int))=some j:=by rw [<-h3,<-List.findIdx?_toArray,aBI]
   have hai:(asInt (.int kd (Int.ofNat n))).run P w= .ok (n:Int) w:=by simp [asInt,asIntOf]
   simp only [Instr.entryStore,bY,MapKept.run_getObj_map hb,dU,hai,h3',hw]
 ·cases hk
theorem Nv(h:Rel P w0 U S w){ts:Array TypeId}{t:TypeId}{m m' key Jn:Value}{k:St->Bool}(hk:Rz P ts.toList m key S k=true)(hm:VR U m m')(Xw:VR U key Jn):
 ∃S' w',k S'=true/\Rel P w0 U S' w'/\uI U w U w'/\(Builtin.delete_ ts t #[m',Jn]).run P w= .ok (.tuple #[]) w':=by
 unfold Rz at hk;split at hk
 ·rename_i t0 ts' Jq
  have h0:ts[0]? =some t0:=by have:=lT (·[0]?) Jq;simpa using this
  split at hk
  ·rename_i kt et hmt
   have hu:=yL hmt;split at hk
   ·rename_i uW
    rw [Xw.key uW];rcases GD hk with ⟨rfl,tZ⟩ | ⟨r,es,c,rfl,ho,tZ⟩
    ·cases hm.of_flat rfl
     exact⟨S,w,tZ,h,.refl U w,by simp [Builtin.delete_,h0,run_underlying hu,iS uW]⟩
    ·obtain⟨L,hL,rfl⟩:=hm.FI
     obtain⟨iW,uY,hb,SF⟩:=h.map ho hL;have hk:=tZ;simp only at hk;obtain⟨q,q',hk,dF,hr⟩:=IQ uW hk SF;rcases hr with ⟨rfl,rfl⟩ | ⟨j,e,e',rfl,h1,h2,rfl⟩
     ·simp only at hk
      obtain⟨w',hw,r1,r2⟩:=h.VL (P:=P) ho hL hb uY (es2:=es) (Jo:=iW) (c2:=c) SF ⟨_,_,rfl⟩;refine⟨S,w',hk,?_,r2,by simp [Builtin.delete_,h0,run_underlying hu,MapKept.run_getObj_map hb,iS uW,dF,hw]⟩
      exact r1.same (λj=>by
       rw [CM];split
       ·rename_i e;subst e;exact ho.symm
       ·rfl) rfl
     ·simp only [gB,aEN,gR]at hk
      obtain⟨w',hw,r1,r2⟩:=h.VL (P:=P) ho hL hb uY (es2:=es.eraseIdx j) (Jo:=iW.eraseIdxIfInBounds j) (c2:=c)
       (by
        have:(iW.eraseIdxIfInBounds j).toList=iW.toList.eraseIdx j:=by
         have hlt:j<iW.size:=by have:=(dS.1 h2).1;simpa using this
         simp [Array.eraseIdxIfInBounds,hlt]
        rw [this];exact SF.erase j) ⟨_,_,rfl⟩
      exact⟨_,w',hk,r1,r2,by simp [Builtin.delete_,h0,run_underlying hu,MapKept.run_getObj_map hb,iS uW,dF,hw]⟩
   ·cases hk
  ·cases hk
 ·cases hk
theorem PS(h:Rel P w0 U S w){t:TypeId}{K:VK}(hk:uH S (.map [] 0) (λi S=>K (.map (some i)) S)=true):
 ∃U' v S' v' w',K v S'=true/\(Instr.makeMap t none).run P w= .ok v' w'/\VR U' v v'/\Rel P w0 U' S' w'/\uI U w U' w':=by
 rw [gZ]at hk;obtain⟨r1,r2⟩:=h.new (.map [] 0) (.map #[] 0) ⟨w.heap.size,0,0,0⟩ rfl (λU' _ hU=>⟨_,#[],hU,h.base.size,by show(w.heap.push _)[w.heap.size]? =_;simp,rfl,by simp⟩) (by simp [iP.olds]);exact⟨_,_,_,_,_,hk,by simp [Instr.makeMap,newObj];rfl,.map (Rn.kD U S.n _),r1,r2⟩
theorem Jr(h:Rel P w0 U S w){t:TypeId}{r r':Value}{K:VK}(hr:VR U r r')
 (hk:(match(generalizing:=false) r,EA P t with | .int _ _,some _=>uH S (.map [] 0) (λi S=>K (.map (some i)) S) | _,_=>false)=true):
 ∃U' v S' v' w',K v S'=true/\(Instr.makeMap t (some r')).run P w= .ok v' w'/\VR U' v v'/\Rel P w0 U' S' w'/\uI U w U' w':=by
 split at hk
 ·rename_i hm
  have hu:=yL hm;cases hr.of_flat rfl;obtain⟨U',v,S',v',w',h1,h2,h3⟩:=PS (t:=t) h hk;refine⟨U',v,S',v',w',h1,?_,h3⟩;simp [Instr.makeMap,run_underlying hu,asInt,asIntOf]at h2 ⊢;exact h2
 ·cases hk
theorem aJK(n:Nat)(l:List Nat):aJH n l=l.contains n:=by
 induction l with
 | nil=>rfl
 | cons m l ih=>
  show dL (Nat.beq m n) true (aJH n l)=_;rw [ih,List.contains_cons];cases hb:Nat.beq m n with
  | true=>have:=cT hb;subst this;simp [dL]
  | false=>have:=OX hb;have h2:(n==m)=false:=by simpa using dB this
           rw [h2];rfl
theorem Xx(seen:List Nat)(k:List MapEntry->Bool)(es:List MapEntry):Xp seen es k=k (es.filter λe=> !seen.contains e.born):=by
 induction es generalizing k with
 | nil=>rfl
 | cons e es ih=>
  show dL (aJH e.born seen) (Xp seen es k) (Xp seen es λt=>k (e::t))=_;rw [aJK,ih,ih,JZ];cases hb:seen.contains e.born<;>rfl
theorem gA.aN9{l l':List MapEntry}(h:gA U l l'){e':MapEntry}(he:e'∈l'):∃e,e∈l/\PM U e e':=by
 obtain⟨k,hk,rfl⟩:=MG he;have hl:k<l.length:=by rw [h.1];exact hk
 exact⟨l[k],nO hl,h.2 k _ _ (aP hl) (aP hk)⟩
theorem gA.mem{l l':List MapEntry}(h:gA U l l'){e:MapEntry}(he:e∈l):∃e',e'∈l'/\PM U e e':=by
 obtain⟨k,hk,rfl⟩:=MG he;have hl:k<l'.length:=by rw [<-h.1];exact hk
 exact⟨l'[k],nO hl,h.2 k _ _ (aP hk) (aP hl)⟩
theorem Nx(h:Rel P w0 U S w){t:TypeId}{x x':Value}{K:VK}(hk:XJ P t x S K=true)(hx:VR U x x'):
 ∃U' v S' v' w',K v S'=true/\(Instr.range t x').run P w= .ok v' w'/\VR U' v v'/\Rel P w0 U' S' w'/\uI U w U' w':=by
 unfold XJ at hk;split at hk
 ·rename_i kt et hm
  have hu:=yL hm;split at hk
  ·cases hx.of_flat rfl
   rw [gZ]at hk;obtain⟨r1,r2⟩:=h.new (.iter none 0 [] 0) (.mapIter none 0 #[] 0) ⟨w.heap.size,0,0,0⟩ rfl (λU' _ hU=>⟨_,0,#[],0,⟨hU,rfl⟩,h.base.size,by show(w.heap.push _)[w.heap.size]? =_;simp⟩) (by simp [iP.olds]);exact⟨_,_,_,_,_,hk,run_range_nilMap w t _ _ hu,.ptr (Rn.kD U S.n _),r1,r2⟩
  ·rename_i r
   obtain⟨L,hL,rfl⟩:=hx.FI;rw [lV]at hk;cases ho:S.h.get r with
   | none=>rw [ho]at hk;cases hk
   | some o=>
    rw [ho]at hk;cases o with
    | map es c=>
     obtain⟨iW,uY,hb,SF⟩:=h.map ho hL;have hk:uH S (.iter (some r) c [] c) (λi S=>K (.pointer (some ⟨i,0,none⟩)) S)=true:=hk;rw [gZ]at hk
     obtain⟨r1,r2⟩:=h.new (.iter (some r) c [] c) (.mapIter (some L.b) c #[] c) ⟨w.heap.size,0,0,0⟩ rfl
      (λU' he hU=>⟨_,L,⟨hU,rfl⟩,h.base.size,he _ _ hL,by show(w.heap.push _)[w.heap.size]? =_;simp⟩) (by simp [iP.olds])
     exact⟨_,_,_,_,_,hk,run_range_map w t _ _ L.b iW c hu hb,.ptr (Rn.kD U S.n _),r1,r2⟩
    | _=>cases hk
  ·cases hk
 ·cases hk
theorem Xy(h:Rel P w0 U S w){ty:TypeId}{x x':Value}{K:VK}(hk:aDx x S K=true)(hx:VR U x x'):
 ∃v S' v' w',K v S'=true/\(Instr.next x' false ty).run P w= .ok v' w'/\VR U v v'/\Rel P w0 U S' w'/\uI U w U w':=by
 unfold aDx at hk;split at hk
 ·rename_i i
  obtain⟨_,L,hL,rfl⟩:=hx.FF;rw [lV]at hk;cases ho:S.h.get i with
  | none=>rw [ho]at hk;cases hk
  | some o=>
   rw [ho]at hk;cases o with
   | iter m since seen last=>
    cases m with
    | none=>
     have hk:K (.tuple ⟨[.bool false]⟩) S=true:=hk;obtain⟨L',a,b,c,⟨h1,hs⟩,h2,h3⟩:=h.GO i _ ho;rw [hL]at h1;injection h1 with h1;subst h1;refine⟨_,S,_,w,hk,?_,.rI (.cons (.flat rfl) (.nil U)),h,.refl U w⟩;rw [hs];simp only [Instr.next,getObj,bY,Sem.run,h3,Result.andThen];rfl
    | some r=>
     obtain⟨L',M,⟨h1,hs⟩,h2,h3,h4⟩:=h.GO i _ ho;rw [hL]at h1;injection h1 with h1;subst h1;rw [hs]
     have hk:oV S.h r (λo=>match o with
      | .map es c=>match rD (λe=>Nat.blt e.born since) es,Nat.ble since last with
       | true,true=>Xp seen es λl=>match l with
        | []=>K (.tuple ⟨[.bool false]⟩) S
        | e::t=>rD (λe=>zN seen [e.born] λseen=>rE S i (.iter (some r) since seen c) λS=>K (.tuple ⟨[.bool true,e.key,e.val]⟩) S) (e::t)
       | _,_=>false
      | _=>false)=true:=hk
     rw [lV]at hk;cases wK:S.h.get r with
     | none=>rw [wK]at hk;cases hk
     | some o2=>
      rw [wK]at hk;cases o2 with
      | map es c=>
       obtain⟨iW,uY,hb,SF⟩:=h.map wK h3;dsimp only at hk;split at hk
       ·rename_i hold hsc
        rw [jZ]at hold;have hsc:=aW hsc
        have aOa:∀x∈iW.toList,x.born<since:=by
         intro x hx;obtain⟨e,he,hr⟩:=SF.aN9 hx;have:=dJ.1 hold e he;rw [hr.2.2.1];exact aW this
        rw [Xx]at hk
        have aDC:∀e'∈(leftOf iW ⟨seen⟩).toList,∃e,e∈es.filter (λe=> !seen.contains e.born)/\PM U e e':=by
         intro e' he';unfold leftOf at he';rw [Array.toList_filter]at he';obtain⟨h5,h6⟩:=gE.1 he';obtain⟨e,he,hr⟩:=SF.aN9 h5;refine⟨e,gE.2 ⟨he,?_⟩,hr⟩;rw [hr.2.2.1]at h6;simpa using h6
        rcases run_next_at (P:=P) w ty L.b M.b since last ⟨seen⟩ iW c h4 hb aOa hsc with ⟨h0,dF⟩ | ⟨e',he',w1,hw1,dF⟩
        ·have VM:es.filter (λe=> !seen.contains e.born)=[]:=by
          cases hf:es.filter (λe=> !seen.contains e.born)with
          | nil=>rfl
          | cons e t=>
           exfalso;have hm:e∈es.filter (λe=> !seen.contains e.born):=by rw [hf];exact .head _
           obtain⟨h5,h6⟩:=gE.1 hm;obtain⟨e',he',hr⟩:=SF.mem h5
           have:e'∈(leftOf iW ⟨seen⟩).toList:=by
            unfold leftOf;rw [Array.toList_filter];refine gE.2 ⟨he',?_⟩;rw [hr.2.2.1];simpa using h6
           have hz:(leftOf iW ⟨seen⟩).toList=[]:=mS (by simpa using h0);rw [hz]at this;cases this
         rw [VM]at hk;exact⟨_,S,_,w,hk,dF,.rI (.cons (.flat rfl) (.nil U)),h,.refl U w⟩
        ·obtain⟨e,he,hr⟩:=aDC e' he'
         have zA:(es.filter (λe=> !seen.contains e.born)).all (λe=>zN seen [e.born] λseen=>rE S i (.iter (some r) since seen c) λS=>K (.tuple ⟨[.bool true,e.key,e.val]⟩) S)=true:=by
          cases hf:es.filter (λe=> !seen.contains e.born)with
          | nil=>rfl
          | cons x t=>rw [hf]at hk;simp only [jZ]at hk;exact hk
         have hk:=dJ.1 zA e he;rw [lE,gR]at hk
         have aOb:Rel P w0 U S w1/\uI U w U w1/\w1.heap=w.heap:=by
          rcases hw1 with rfl | rfl
          ·exact⟨h,.refl _ _,rfl⟩
          ·exact⟨h.drew,.drew _ _,rfl⟩
         obtain⟨Xd,TX,hh1⟩:=aOb
         obtain⟨r1,r2⟩:=Xd.aJJ (o':= .iter (some r) since (seen++[e.born]) c) ho rfl rfl rfl hL h2 rfl (.mapIter (some M.b) since ((⟨seen⟩:Array Nat).push e'.born) c)
          (λXO=>⟨L,M,⟨hL,hs⟩,h2,h3,by rw [XO,hr.2.2.1];simp⟩)
         exact⟨_,_,_,_,hk,dF,.rI (.cons (.flat rfl) (.cons (by rw [hr.1];exact .jV hr.2.1) (.cons hr.2.2.2 (.nil U)))),r1,TX.trans r2⟩
       ·cases hk
      | _=>cases hk
   | _=>cases hk
 ·cases hk
theorem aBR{l:List Nat}{k:Nat->Bool}(hk:Xq l k=true):∃b,l.getLast?=some b/\k b=true:=by
 induction l with
 | nil=>cases hk
 | cons n t ih=>
  cases t with
  | nil=>exact⟨n,rfl,hk⟩
  | cons m t=>
   obtain⟨b,h1,h2⟩:=ih hk;exact⟨b,by rw [List.getLast?_cons_cons];exact h1,h2⟩
theorem Sn(h:Rel P w0 U S w){x x':Value}{K:VK}(hk:Sc x S K=true)(hx:VR U x x'):
 ∃v v',K v S=true/\VR U v v'/\(Instr.entry x').run P w= .ok v' w:=by
 unfold Sc at hk;split at hk
 ·rename_i i
  obtain⟨_,L,hL,rfl⟩:=hx.FF;rw [lV]at hk;cases ho:S.h.get i with
  | none=>rw [ho]at hk;cases hk
  | some o=>
   rw [ho]at hk;cases o with
   | iter m since seen last=>
    cases m with
    | none=>cases hk
    | some r=>
     obtain⟨L',M,⟨h1,hs⟩,h2,h3,h4⟩:=h.GO i _ ho;rw [hL]at h1;injection h1 with h1;subst h1;rw [hs]
     replace hk:oV S.h r (λo=>match o with
      | .map es c=>match Nat.beq c last with
       | true=>Xq seen λb=>Pe b es λ_ e=>K (.tuple ⟨[e.key,e.val]⟩) S
       | false=>false
      | _=>false)=true:=hk
     rw [lV]at hk;cases wK:S.h.get r with
     | none=>rw [wK]at hk;cases hk
     | some o2=>
      rw [wK]at hk;cases o2 with
      | map es c=>
       obtain⟨iW,uY,hb,SF⟩:=h.map wK h3;dsimp only at hk;split at hk
       ·rename_i Ed
        obtain rfl:=cT Ed;obtain⟨b,aOc,hk⟩:=aBR hk;have hk:IR b (λ_ e=>K (.tuple ⟨[e.key,e.val]⟩) S) es 0=true:=hk;obtain⟨j,e,e',hk,he,he',hf⟩:=TW es iW.toList 0 hk SF;have hr:=SF.2 j e e' he he';refine⟨_,_,hk,.rI (.cons (.jV hr.2.1) (.cons hr.2.2.2 (.nil U))),?_⟩;have aOd:(⟨seen⟩:Array Nat).back?=some b:=by simpa using aOc
        have aGw:iW.find? (·.born==b)=some e':=by
         rw [<-Array.find?_toList]
         have Nn:iW.toList.findIdx? (λe=>e.born==b)=some j:=by
          rw [<-hf];congr 1;funext x;rw [qU,beq_iff_eq,beq_iff_eq];omega
         obtain⟨hlt,hp,aPO⟩:=Ri.1 Nn;rw [List.find?_eq_some_iff_getElem]
         have hgj:iW.toList[j]=e':=by
          have:=aP hlt;rw [this]at he';injection he'
         exact⟨by rw [<-hgj];exact hp,j,hlt,hgj,λk hk=>by simpa using aPO k hk⟩
        simp only [Instr.entry,getObj,bY,Sem.run,h4,hb,Result.andThen,aOd,bne_self_eq_false,bQ,if_false,aGw];rw [hr.1];rfl
       ·cases hk
      | _=>cases hk
   | _=>cases hk
 ·cases hk
theorem PT{t as xT:TypeId}{v:Value}{d:TypeDesc}{ok:Bool}(hd:P.underlying as=some d)(hi:∀ms,d≠ .interface ms)(ht:t=as):
 (Instr.typeAssert (.iface t v) xT as ok).run P w= .ok (if ok then .tuple #[v,.bool true]else v) w:=by
 subst ht;simp only [Instr.typeAssert,bY,run_underlying hd,dU];cases d<;>first | exact absurd rfl (hi _) | (cases ok<;>simp)
end
section
variable{P:Program}{w0:World}{U:Rn}{S:St}{w:World}
theorem XU(h:Rel P w0 U S w){size n:Nat}{x x':Value}{k:List Value->Bool}(hk:GJ S size n x k=true)(hx:VR U x x'):
 ∃cs cs',k cs=true/\lD U cs cs'/\cs'.length=n*size/\(Builtin.firstCells size n x').run P w= .ok ⟨cs'⟩ w/\(Builtin.firstCells size n x').run P w.drew= .ok ⟨cs'⟩ w.drew:=by
 unfold GJ at hk;split at hk
 ·cases hx.of_flat rfl
  split at hk
  ·exact⟨_,[],hk,.nil U,by simp,rfl,rfl⟩
  ·cases hk
 ·rename_i i o sp len c
  split at hk
  ·rcases hx.jC with ⟨L,c',hL,rfl,_⟩ | ⟨⟨s1,h1⟩,rfl,rfl,a,c',rfl⟩
   ·exact⟨_,[],hk,.nil U,by simp,by simp [Builtin.firstCells,loadCells,loadCellsFrom],by simp [Builtin.firstCells,loadCells,loadCellsFrom]⟩
   ·exact⟨_,[],hk,.nil U,by simp,by simp [Builtin.firstCells,loadCells,loadCellsFrom],by simp [Builtin.firstCells,loadCells,loadCellsFrom]⟩
  ·rename_i n
   split at hk
   ·cases hk
   ·rename_i CW
    rcases hx.jC with ⟨L,c',hL,rfl,_⟩ | ⟨⟨s1,h1⟩,rfl,rfl,a,c',rfl⟩
    ·obtain⟨vs,e',ck,ho,hle,hk⟩:=sL hk
     obtain⟨l',Sj,hlen,hc⟩:=h.yK ho hL hle;exact⟨_,l',hk,Sj,hlen,run_loadCells (P:=P) _ l' hlen hc,run_loadCells (P:=P) (w:=w.drew) _ l' hlen hc⟩
    ·exact absurd h1 (CW s1)
 ·rename_i s
  cases hx.of_flat rfl;split at hk
  ·rw [CX]at hk
   split at hk
   ·rename_i hle
    rw [Sh]at hk
    have hd:((s.extract 0 n).data.map λb=>Value.int .u8 (b.toNat:Int))=⟨(s.data.toList.take n).map λb=>Value.int .u8 (b.toNat:Int)⟩:=by
     apply iR.1;simp
    refine⟨_,_,hk,.flat (by intro v hv;obtain⟨b,_,rfl⟩:=mF.1 hv;rfl),by simp at hle ⊢;omega,?_,?_⟩
    ·simp only [Builtin.firstCells,jU];rw [hd]
    ·simp only [Builtin.firstCells,jU];rw [hd]
   ·cases hk
  ·cases hk
 ·cases hk
theorem Ek{x x':Value}{k:Nat->Bool}(hk:KX x k=true)(hx:VR U x x'):∃n,k n=true/\(∀w,(Builtin.lenOf x').run P w= .ok n w)/\∀size w,(Builtin.firstCells size 0 x').run P w= .ok #[] w:=by
 unfold KX at hk;split at hk
 ·rename_i n c
  have f0:∀(a:Addr) (n c size:Nat) (w:World),(Builtin.firstCells size 0 (.slice (some a) n c)).run P w= .ok #[] w:=λa n c size w=>by simp [Builtin.firstCells,loadCells,loadCellsFrom]
  cases hx with
  | flat hf=>
   rename_i base;cases base with
   | none=>exact⟨n,hk,λw=>rfl,λ_ w=>rfl⟩
   | some a=>simp [bE]at hf
  | slice _=>exact⟨n,hk,λw=>rfl,λ_ w=>f0 _ _ _ _ w⟩
  | oG _ _ _ _ _=>exact⟨n,hk,λw=>rfl,λ_ w=>f0 _ _ _ _ w⟩
  | zQ=>exact⟨_,hk,λw=>rfl,λ_ w=>f0 _ _ _ _ w⟩
  | zR _=>exact⟨_,hk,λw=>rfl,λ_ w=>f0 _ _ _ _ w⟩
 ·rename_i s
  cases hx.of_flat rfl;rw [kM]at hk;exact⟨_,hk,λw=>rfl,λ_ w=>by simp [Builtin.firstCells]⟩
 ·cases hk
theorem Pk{d:Option TypeDesc}(h:Jh d=true):(∃e,d=some (.slice e))\/d=some .string:=by
 unfold Jh at h;split at h
 ·exact .inl ⟨_,rfl⟩
 ·exact .inr rfl
 ·cases h
section
variable{ts:Array TypeId}{ty t tx e:TypeId}{i:TypeInfo}{z:Value}{base:Option Addr}{sLen sCap n:Nat}{x:Value}{news olds:List Value}{w1:World}
theorem FK(h0:ts[0]? =some t)(h1:ts[1]? =some tx)(ht:P.underlying t=some (.slice e))(hx:Jh (P.underlying tx)=true)(hi:P.info? e=some i)
 (hlen:∀w,(Builtin.lenOf x).run P w= .ok n w) (uA:sLen+n<=sCap) (hc:(Builtin.firstCells i.size n x).run P w= .ok ⟨news⟩ w)
 (Xe:∀a,base=some a->(storeCells (a.add (sLen*i.size)) news).run P w= .ok () w1) (IF:base=none->w1=w):
 (Builtin.append_ ts ty #[.slice base sLen sCap,x]).run P w= .ok (.slice base (sLen+n) sCap) w1:=by
 rcases Pk hx with ⟨e',hx⟩ | hx
 all_goals cases base with
  | none=>cases IF rfl;simp [Builtin.append_,h0,h1,run_underlying ht,run_underlying hx,sizeOf,typeInfo,hi,hlen,uA,hc]
  | some a=>simp [Builtin.append_,h0,h1,run_underlying ht,run_underlying hx,sizeOf,typeInfo,hi,hlen,uA,hc,Xe a rfl]
theorem FL(h0:ts[0]? =some t)(h1:ts[1]? =some tx)(ht:P.underlying t=some (.slice e))(hx:Jh (P.underlying tx)=true)(hi:P.info? e=some i)(hz:i.zero=some z)
 (hlen:∀w,(Builtin.lenOf x).run P w= .ok n w) (uA:sCap<sLen+n) (VN:((sLen+n)*i.bytes<=140737488355328/\(sLen+n)<=140737488355328)) (hold:(Builtin.firstCells i.size sLen (.slice base sLen sCap)).run P w.drew= .ok ⟨olds⟩ w.drew)
 (hc:(Builtin.firstCells i.size n x).run P w.drew= .ok ⟨news⟩ w.drew):
 (Builtin.append_ ts ty #[.slice base sLen sCap,x]).run P w= .ok (.slice (some ⟨w.heap.size,0,none⟩) (sLen+n) (grownCap w (sLen+n) sCap e))
  (w.drew.alloc (.cells ⟨(olds++news)++(List.replicate (grownCap w (sLen+n) sCap e-(sLen+n)) z.cells.toList).flatten⟩ e)):=by
 have hn:¬(sLen+n<=sCap):=by omega
 have hb:(sLen+n)*i.bytes<=140737488355328:=VN.1;have TC:sLen+n<=140737488355328:=VN.2;have aPP:¬(9223372036854775807<((sLen:Int)+(n:Int))):=by omega
 have h48:=growslice_fits (bytes:=i.bytes) uA (by omega);have aPQ:¬(281474976710656<Builtin.nextslicecap (sLen+n) sCap*i.bytes):=by omega
 have hzz:∀m,Builtin.zeroCells z.cells m=⟨(List.replicate m z.cells.toList).flatten⟩:=by
  intro m;by_cases wC:z.cells.toList=[]
  ·have:z.cells= #[]:=iR.1 wC
   apply iR.1;simp [Builtin.zeroCells,this]
  ·exact GN z.cells.toList z.cells rfl m wC
 rcases Pk hx with ⟨e',hx⟩ | hx<;>
  simp [Builtin.append_,h0,h1,run_underlying ht,run_underlying hx,sizeOf,typeInfo,zeroValue,hi,hz,hlen,hn,aPP,aPQ,Question.forced,hc,hold,newRow,grownCap,hzz]
end
end
section
variable{P:Program}{w0:World}{U:Rn}{S:St}{w:World}
theorem Rel.sA(h:Rel P w0 U S w){b:Nat}{vs:List Value}{e:TypeId}{olds:List Nat}(ho:S.obj b=some (.cells vs e (.grown olds))):Rel P w0 U (S.set b (.cells vs e .sA)) w:=by
 have zU:∀j x,(S.set b (.cells vs e .sA)).obj j=some x->(j=b/\x= .cells vs e .sA)\/(j≠b/\S.obj j=some x):=λj x hx=>by
  rw [CM]at hx;by_cases e:j=b
  ·rw [if_pos e]at hx;injection hx with hx;exact .inl ⟨e,hx.symm⟩
  ·rw [if_neg e]at hx;exact .inr ⟨e,hx⟩
 have hsh:∀(j:Nat) (y:iP),y.xY=false->S.obj j=some y->aGx b j (.cells vs e (.grown olds)) y->y.reads=true:=by
  intro j y hd hy hs;rcases hs with ⟨h1,_⟩ | h1 | h1
  ·cases h1
  ·obtain⟨_,h2⟩:=h.old b vs e olds ho j h1
   rcases h2 y hy with h3 | ⟨ws,t',h3,_⟩
   ·rw [h3]at hd;cases hd
   ·rw [h3];rfl
  ·cases y with
   | cells us t k=>
    cases k with
    | grown l=>
     obtain⟨_,h2⟩:=h.old j us t l hy b h1;rcases h2 _ ho with h3 | ⟨ws,t',h3,_⟩
     ·cases h3
     ·injection h3 with _ _ h3;cases h3
    | _=>cases h1
   | _=>cases h1
 refine⟨h.Gl,λj x hx=>?_,h.Xc,λj x hx=>?_,h.loc,λi j x y L M XS hx hy hdx hdy hL hM hb=>?_,λj us t l hj i hi=>?_,h.base⟩
 ·rcases zU j x hx with ⟨rfl,rfl⟩ | ⟨_,hx⟩
  ·obtain⟨L,cs,t,fz,h1,h2,h3,h4⟩:=h.GO _ _ ho
   exact⟨L,cs,t,fz,h1,h2,h3,h4.1,h4.2.2.2⟩
  ·exact h.GO j x hx
 ·rcases zU j x hx with ⟨rfl,_⟩ | ⟨_,hx⟩
  ·exact h.lt _ _ ho
  ·exact h.lt j x hx
 ·rcases zU i x hx with ⟨e1,e2⟩ | ⟨e1,VJ⟩<;>rcases zU j y hy with ⟨f1,f2⟩ | ⟨f1,hy1⟩
  ·exact absurd (e1.trans f1.symm) XS
  ·subst e1 e2
   exact .inl ⟨rfl,hsh j y hdy hy1 (h.sep i j _ y L M XS ho hy1 rfl hdy hL hM hb)⟩
  ·subst f1 f2
   have:=h.sep j i _ x M L (dB XS) ho VJ rfl hdx hM hL hb.symm;exact .inl ⟨hsh i x hdx VJ this,rfl⟩
  ·exact h.sep i j x y L M XS VJ hy1 hdx hdy hL hM hb
 ·rcases zU j _ hj with ⟨_,e2⟩ | ⟨e1,hj⟩
  ·injection e2 with _ _ e2;cases e2
  ·obtain⟨h1,h2⟩:=h.old j us t l hj i hi
   refine⟨h1,λx hx=>?_⟩;rcases zU i x hx with ⟨rfl,rfl⟩ | ⟨_,hx⟩
   ·rcases h2 _ ho with h3 | ⟨ws,t',h3,_⟩
    ·cases h3
    ·injection h3 with _ _ h3;cases h3
   ·exact h2 x hx
theorem Rel.aOe(h:Rel P w0 U S w){b:Nat}{L:Loc}(hL:U b=some L){vs:List Value}{e:TypeId}(ho:S.obj b=some (.cells vs e .sA)){olds:List Nat}
 (holds:∀i∈olds,i<S.n/\∀x,S.obj i=some x->Xz U b vs i x)
 (So:∀j x M,S.obj j=some x->x.xY=false->U j=some M->M.b=L.b->j=b\/j∈olds)
 {cs cs':Array Value} {t:TypeId} {fz:Nat×Nat} (hb:w.heap[L.b]? =some (.cells cs t fz)) (hsz:cs'.size=cs.size) (aGy:∀j,j<L.s+vs.length->cs'[j]? =cs[j]?)
 {e2:TypeId} {s2:Nat} {new:List Value} (hlen:L.s+vs.length<=s2+new.length) (XO:∀(j:Nat) (v:Value),new[j]? =some v->∃v',cs'[s2+j]? =some v'/\VR U v v')
 (hfz:Bv cs.size fz) (hLe:L.e=cs.size) (hm:bP P e2=some L.m) (he2:e=e2) (uY:w0.heap.size<=L.b):
 Rel P w0 (U.put S.n ⟨L.b,s2,L.e,L.m⟩) (S.new (.cells new e2 (.grown (b::olds)))) (w.putObj L.b (.cells cs' t fz))/\uI U w (U.put S.n ⟨L.b,s2,L.e,L.m⟩) (w.putObj L.b (.cells cs' t fz)):=by
 have IS:=h.Xc S.n (bI _);have he:Ext U (U.put S.n ⟨L.b,s2,L.e,L.m⟩):=Rn.IT IS;have Gn:=mH (w:=w) (x:= .cells cs' t fz) hb
 have pX:∀j M,U.put S.n ⟨L.b,s2,L.e,L.m⟩ j=some M->(j=S.n/\M=⟨L.b,s2,L.e,L.m⟩)\/(j≠S.n/\U j=some M):=λj M hj=>by
  unfold Rn.put at hj;by_cases e:j=S.n
  ·rw [if_pos e]at hj;injection hj with hj;exact .inl ⟨e,hj.symm⟩
  ·rw [if_neg e]at hj;exact .inr ⟨e,hj⟩
 have pM:∀j x,(S.new (.cells new e2 (.grown (b::olds)))).obj j=some x->(j=S.n/\x= .cells new e2 (.grown (b::olds)))\/(j≠S.n/\S.obj j=some x):=λj x hx=>by
  rw [MQ]at hx;by_cases e:j=S.n
  ·rw [if_pos e]at hx;injection hx with hx;exact .inl ⟨e,hx.symm⟩
  ·rw [if_neg e]at hx;exact .inr ⟨e,hx⟩
 have aL5:=h.lt b _ ho
 have hte:t=e2:=by
  obtain⟨L',cs0,t0,fz0,k1,k2,_,k4⟩:=h.GO b _ ho;rw [hL]at k1;injection k1 with k1;subst k1;rw [hb]at k2;injection k2 with k2;injection k2 with _ k2 _;rw [k2,<-he2];exact k4.2.2
 refine⟨⟨λg hg=>let⟨M,h1,h2⟩:=h.Gl g hg;⟨M,he _ _ h1,h2⟩,λj x hx=>?_,λj hj=>?_,λj x hx=>?_,λj M hj=>?_,λi j x y M N XS hx hy hdx hdy hM hN Gk=>?_,λj us t' l hj i hi=>?_,?_⟩,he,⟨by rw [putObj_size];omega,λc _ hc=>iA (dB (hc b L hL))⟩,λj M hj=>?_⟩
 ·rcases pM j x hx with ⟨rfl,rfl⟩ | ⟨e1,VJ⟩
  ·refine⟨_,cs',t,fz,Rn.kD _ _ _,Gn,λj v hj=>?_,uY,by rw [hsz];exact hfz,by rw [hsz];exact hLe,hm,hte⟩
   obtain⟨v',h1,h2⟩:=XO j v hj;exact⟨v',h1,h2.mono he⟩
  ·cases hd:x.xY with
   | true=>cases x<;>first | trivial | cases hd
   | false=>
    obtain⟨M,hM⟩:=(h.GO j x VJ).loc hd;by_cases hMb:M.b=L.b
    ·
      have Ya:∃ws e',x= .cells ws e' .sA/\M.s+ws.length<=L.s+vs.length:=by
       rcases So j x M VJ hd hM hMb with e2 | PU
       ·subst e2
        rw [ho]at VJ;injection VJ with VJ;rw [hL]at hM;injection hM with hM;subst hM;exact⟨vs,e,VJ.symm,bI _⟩
       ·rcases(holds j PU).2 x VJ with h3 | ⟨ws,e',h3,h4⟩
        ·rw [h3]at hd;cases hd
        ·exact⟨ws,e',h3,h4 L M hL hM hMb⟩
      obtain⟨ws,e',rfl,hle⟩:=Ya;obtain⟨M',cs0,t0,fz0,h1,h2,h3,h4⟩:=h.GO j _ VJ;rw [hM]at h1;injection h1 with h1;subst h1;rw [hMb,hb]at h2;injection h2 with h2;injection h2 with h2 h2a h2b;subst h2 h2a h2b;refine⟨M,cs',t,fz,he _ _ hM,by rw [hMb];exact Gn,λq v hq=>?_,h4⟩;obtain⟨v',g1,g2⟩:=h3 q v hq;have hql:q<ws.length:=(dS.1 hq).1;exact⟨v',(aGy _ (by omega)).trans g1,g2.mono he⟩
    ·exact(h.GO j x VJ).frame he λM' El=>by rw [hM]at El;injection El with El;subst El;exact iA hMb
 ·have Ny:S.n+1<=j:=hj
  unfold Rn.put;rw [if_neg (by omega)];exact h.Xc j (by omega)
 ·rcases pM j x hx with ⟨e1,_⟩ | ⟨_,VJ⟩
  ·subst e1;exact xS _
  ·exact oT (h.lt j x VJ)
 ·rw [putObj_size]
  rcases pX j M hj with ⟨_,rfl⟩ | ⟨_,hM⟩
  ·exact h.loc b L hL
  ·exact h.loc j M hM
 ·rcases pM i x hx with ⟨e1,e2⟩ | ⟨e1,VJ⟩<;>rcases pM j y hy with ⟨f1,f2⟩ | ⟨f1,hy1⟩
  ·exact absurd (e1.trans f1.symm) XS
  ·rcases pX i M hM with ⟨_,rfl⟩ | ⟨e3,_⟩
   ·rcases pX j N hN with ⟨f3,_⟩ | ⟨_,hN1⟩
    ·exact absurd f3 f1
    ·rw [e2]
     rcases So j y N hy1 hdy hN1 Gk.symm with h5 | h5
     ·exact .inr (.inl (by rw [h5];exact .head _))
     ·exact .inr (.inl (.tail _ h5))
   ·exact absurd e1 e3
  ·rcases pX j N hN with ⟨_,rfl⟩ | ⟨f3,_⟩
   ·rcases pX i M hM with ⟨e3,_⟩ | ⟨_,hM1⟩
    ·exact absurd e3 e1
    ·rw [f2]
     rcases So i x M VJ hdx hM1 Gk with h5 | h5
     ·exact .inr (.inr (by rw [h5];exact .head _))
     ·exact .inr (.inr (.tail _ h5))
   ·exact absurd f1 f3
  ·rcases pX i M hM with ⟨e3,_⟩ | ⟨_,hM1⟩
   ·exact absurd e3 e1
   ·rcases pX j N hN with ⟨f3,_⟩ | ⟨_,hN1⟩
    ·exact absurd f3 f1
    ·exact h.sep i j x y M N XS VJ hy1 hdx hdy hM1 hN1 Gk
 ·rcases pM j _ hj with ⟨e1,e2⟩ | ⟨e1,hj1⟩
  ·injection e2 with e2 e3 e4
   injection e4 with e4;subst e1 e2 e4
   have hib:i<S.n/\∀x,S.obj i=some x->Xz U b vs i x:=by
    rcases dA.1 hi with h5 | h5
    ·subst h5
     refine⟨aL5,λx hx=> .inr ⟨vs,e,?_,?_⟩⟩
     ·rw [ho]at hx;injection hx with hx;exact hx.symm
     ·intro L1 M1 g1 g2 _;rw [g1]at g2;injection g2 with g2;subst g2;exact bI _
    ·exact holds i h5
   refine⟨oT hib.1,λx hx=>?_⟩;rcases pM i x hx with ⟨e5,_⟩ | ⟨e5,VJ⟩
   ·exact absurd e5 (by have:=hib.1;omega)
   ·rcases hib.2 x VJ with h6 | ⟨ws,e',h6,h7⟩
    ·exact .inl h6
    ·refine .inr ⟨ws,e',h6,λL1 M1 g1 g2 gb=>?_⟩
     rcases pX _ _ g1 with ⟨_,rfl⟩ | ⟨g3,_⟩
     ·rcases pX _ _ g2 with ⟨g4,_⟩ | ⟨_,g4⟩
      ·exact absurd g4 e5
      ·have:=h7 L M1 hL g4 gb
       simp only;omega
     ·exact absurd rfl g3
  ·obtain⟨h1,h2⟩:=h.old j us t' l hj1 i hi
   refine⟨oT h1,λx hx=>?_⟩;rcases pM i x hx with ⟨e3,_⟩ | ⟨e3,VJ⟩
   ·omega
   ·rcases h2 x VJ with h3 | ⟨ws,e',h3,h4⟩
    ·exact .inl h3
    ·refine .inr ⟨ws,e',h3,λL1 M1 g1 g2 gb=>?_⟩
     rcases pX _ _ g1 with ⟨g3,_⟩ | ⟨_,g3⟩
     ·exact absurd g3 e1
     ·rcases pX _ _ g2 with ⟨g5,_⟩ | ⟨_,g5⟩
      ·exact absurd g5 e3
      ·exact h4 L1 M1 g3 g5 gb
 ·exact⟨h.base.os,h.base.tape,h.base.output,by rw [putObj_size];exact h.base.size,λk hk=>(iA (by omega)).trans (h.base.block k hk)⟩
 ·rcases pX j M hj with ⟨_,rfl⟩ | ⟨_,hM⟩
  ·exact .inr (.inr ⟨b,L,hL,rfl⟩)
  ·exact .inl hM
end
section
variable{P:Program}{w0:World}{U:Rn}{S:St}{w:World}
theorem Em{t e:TypeId}(h:isSlice P t=some e):P.underlying t=some (.slice e):=gI h
theorem PV(n:Nat)(z:List Value){m:Nat}(h:z.length=m):(List.replicate n z).flatten.length=n*m:=by simp [h]
theorem Rel.fresh(h:Rel P w0 U S w){cs cs' zl:List Value}(xV:lD U cs cs'){rX size g:Nat}{elem:TypeId}(hl:cs'.length=rX*size)(hm:bP P elem=some size)(hz:zl.length=size)(VI:0<size)(hg:rX<=g){olds:List Nat}
 (hold:∀i∈olds,i<S.n/\∀x,S.obj i=some x->x= .dead\/∃ws e,x= .cells ws e .sA):
 ∃U',VR U' (.slice (some ⟨S.n,0,some 0⟩) rX rX) (.slice (some ⟨w.heap.size,0,none⟩) rX g)/\Rel P w0 U' (S.new (.cells cs elem (.grown olds))) (w.drew.alloc (.cells ⟨cs'++(List.replicate (g-rX) zl).flatten⟩ elem))/\
  uI U w U' (w.drew.alloc (.cells ⟨cs'++(List.replicate (g-rX) zl).flatten⟩ elem)):=by
 obtain⟨r1,r2⟩:=h.drew.Xs (more:=(List.replicate (g-rX) zl).flatten) xV elem hm (0,0) (by intro x _;omega) olds hold;have hL:=Rn.kD U S.n ⟨w.drew.heap.size,0,(cs'++(List.replicate (g-rX) zl).flatten).length,size⟩;refine⟨_,?_,r1,(uI.drew U w).trans r2⟩
 have hlen:(cs'++(List.replicate (g-rX) zl).flatten).length=g*size:=by
  rw [bH,hl,PV _ _ hz,<-mG]
  congr 1
  omega
 exact VR.oG (o:=0) (n:=rX) (c:=rX) (c':=g) hL hg (bI _) (by simp only [hlen];omega) VI
theorem Sp(h:Rel P w0 U S w){ts:Array TypeId}{ty t tx e:TypeId}{i:TypeInfo}{size:Nat}(h0:ts[0]? =some t)(h1:ts[1]? =some tx)(ht:P.underlying t=some (.slice e))(Bw:Jh (P.underlying tx)=true)(hi:P.info? e=some i)(NX:i.size=size)
 {base:Option Addr} {sLen sCap n:Nat} {s' _x x':Value} {new new':List Value} {K:VK} (hs:VR U (.slice base sLen sCap) s') (hlen:∀w,(Builtin.lenOf x').run P w= .ok n w) (hn:lD U new new')
 (hc:(Builtin.firstCells size n x').run P w= .ok ⟨new'⟩ w) (OO:sLen+n<=sCap) (hk:PK size new base sLen sCap (sLen+n) S K=true):
 ∃U' v S' v' w',K v S'=true/\(Builtin.append_ ts ty #[s',x']).run P w= .ok v' w'/\VR U' v v'/\Rel P w0 U' S' w'/\uI U w U' w':=by
 unfold PK at hk;split at hk
 ·rename_i b o sp
  split at hk
  ·rename_i CW GM
   rw [bA]at hk;rw [jZ]at GM;have GM:=LE hn (dJ.1 GM);rcases hs.jC with ⟨L,c',hL,rfl,Si⟩ | ⟨⟨_,aGz⟩,_⟩
   ·obtain⟨S',w',hk,r1,r2,dF⟩:=vQ h hk hL hn GM
    refine⟨U,_,S',_,w',hk,FK h0 h1 ht Bw hi hlen (by rcases Si with ⟨_,e⟩ | ⟨_,e,_⟩<;>omega) (by rw [NX];exact hc) (λa ha=>?_) (λe=>by cases e),?_,r1,r2⟩
    ·injection ha with ha
     rw [<-ha,mB,NX,uQ];exact dF
    ·rcases Si with ⟨rfl,rfl⟩ | ⟨rfl,e1,e2,e3,e4⟩
     ·exact .slice hL
     ·exact .oG hL e1 OO e3 e4
   ·rw [aGz]at CW;cases CW
  ·cases hk
 ·cases hk
theorem Nz(h:Rel P w0 U S w){ts:Array TypeId}{ty t tx e:TypeId}{i:TypeInfo}{z:Value}{size:Nat}(h0:ts[0]? =some t)(h1:ts[1]? =some tx)(ht:P.underlying t=some (.slice e))(Bw:Jh (P.underlying tx)=true)(hi:P.info? e=some i)(NX:i.size=size)(hz:i.zero=some z)(Bt:z.cells.size=size)(VI:0<size)
 {base:Option Addr} {sLen sCap n:Nat} {s' _x x':Value} {new new':List Value} {K:VK} (hs:VR U (.slice base sLen sCap) s') (hlen:∀w,(Builtin.lenOf x').run P w= .ok n w) (hn:lD U new new') (MB:new'.length=n*size)
 (hc:(Builtin.firstCells size n x').run P w= .ok ⟨new'⟩ w) (hcD:(Builtin.firstCells size n x').run P w.drew= .ok ⟨new'⟩ w.drew) (OO:¬sLen+n<=sCap) (VN:((sLen+n)*i.bytes<=140737488355328/\(sLen+n)<=140737488355328))
 (hk:XK P e size new base sLen (sLen+n) S K=true):
 ∃U' v S' v' w',K v S'=true/\(Builtin.append_ ts ty #[s',x']).run P w= .ok v' w'/\VR U' v v'/\Rel P w0 U' S' w'/\uI U w U' w':=by
 have hm:bP P e=some size:=by unfold bP;rw [hi];simp [NX]
 have Ph:z.cells.toList.length=size:=by simpa using Bt
 subst NX;unfold XK at hk;split at hk
 ·
   cases hs.of_flat rfl;split at hk
   ·simp only [NW,lE,gZ,PB]at hk
    rw [gB]at hk OO VN;have dF:=FL (w:=w) (ty:=ty) (base:=none) (sLen:=0) (sCap:=sCap) (olds:=[]) h0 h1 ht Bw hi hz hlen (by omega) (by rw [gB];exact VN) rfl hcD;rw [gB,PB]at dF;obtain⟨U',r0,r1,r2⟩:=h.fresh hn MB hm Ph VI (grownCap_ge w n sCap e) (olds:=[]) (by simp);exact⟨U',_,_,_,_,hk,dF,r0,r1,r2⟩
   ·cases hk
 ·
   rename_i b o;rcases hs.jC with ⟨L,c',hL,rfl,⟨_,rfl⟩ | ⟨CW,_⟩⟩ | ⟨⟨_,CW⟩,_⟩
   ·obtain⟨vs,e',ck,ho,hle,hk⟩:=sL hk
    obtain⟨aGA,Sj,Ej,hcell⟩:=h.yK ho hL hle;simp only [NW,lE,gZ]at hk;have dF:=FL (w:=w) (ty:=ty) (base:=some ⟨L.b,L.s+o,none⟩) (sLen:=sLen) (sCap:=c') (olds:=aGA) h0 h1 ht Bw hi hz hlen (by omega) VN (run_loadCells (w:=w.drew) _ aGA Ej hcell) hcD;obtain⟨U',r0,r1,r2⟩:=h.fresh (Sj.append hn) (by rw [bH,Ej,MB,<-mG]) hm Ph VI (grownCap_ge w (sLen+n) c' e) (olds:=[]) (by simp);exact⟨U',_,_,_,_,hk,dF,r0,r1,r2⟩
   ·cases CW
   ·cases CW
 ·
   rename_i b o;rcases hs.jC with ⟨L,c',hL,rfl,⟨CW,_⟩ | ⟨_,hcc,hnc,Yb,hmp⟩⟩ | ⟨⟨_,CW⟩,_⟩
   ·cases CW
   ·obtain⟨vs,e',ck,ho,hk⟩:=uZ hk
    rw [kM]at hk;split at hk
    ·rename_i olds q aPR hq
     have XC:=cT aPR;split at hk
     ·rename_i hqs GM hel
      have hqs:=cT hqs;subst hqs;have hel:=cT hel;rw [jZ]at GM;have GM:=LE hn (dJ.1 GM);obtain⟨vs2,e2,ck2,wK,hle,hk⟩:=sL hk;rw [ho]at wK;injection wK with wK;injection wK with q1 q2 q3;subst q1 q2;obtain⟨aGA,Sj,Ej,hcell⟩:=h.yK ho hL hle;simp only [NW,lE,gZ,gR]at hk;obtain⟨cs,t',fz,hb,hcv,uY,Pl,hLe,hLm,_⟩:=h.cells ho hL;have hLm:L.m=i.size:=by rw [hq]at hLm;injection hLm with hLm;exact hLm.symm
      have Xe:=h.sA ho;have hob:(S.set b (.cells vs e' .sA)).obj b=some (.cells vs e' .sA):=by rw [CM,if_pos rfl]
      have aL5:=h.lt b _ ho
      have holds:∀q∈olds,q<S.n/\∀y,(S.set b (.cells vs e' .sA)).obj q=some y->Xz U b vs q y:=by
       intro q hq;obtain⟨g1,g2⟩:=h.old b vs e' olds ho q hq;refine⟨g1,λy hy=>?_⟩;rw [CM]at hy;split at hy
       ·rename_i eq
        rcases g2 _ (eq▸ho)with g3 | ⟨ws,u,g3,_⟩
        ·cases g3
        ·injection g3 with _ _ g3;cases g3
       ·exact g2 y hy
      by_cases uA:sLen+n<=c'
      ·
        have aOf:L.s+o+sLen*i.size+new'.length<=cs.size:=by
         rw [MB,uQ,<-mG,<-hLe];rw [hLm]at Yb;have:=lB i.size uA;omega
        have hsc:=iT (P:=P) new' w L.b (L.s+o+sLen*i.size) 0 cs t' fz hb (by simpa using aOf) (λx VJ hx2=>Pl x (by simp at VJ hx2;omega)) GM;simp only [MJ]at hsc;have aPS:cs.toList.length=cs.size:=rfl
        have Gn:∀j:Nat,(⟨aE (L.s+o+sLen*i.size) new' cs.toList⟩:Array Value)[j]? =if L.s+o+sLen*i.size<=j/\j<L.s+o+sLen*i.size+new'.length then new'[j-(L.s+o+sLen*i.size)]? else cs[j]? :=by
         intro j;have:=fW (L.s+o+sLen*i.size) new' cs.toList (by omega) j;simpa using this
        obtain⟨r1,r2⟩:=Xe.aOe (S:=S.set b (.cells vs e' .sA)) hL hob (olds:=olds) holds
         (λj y M hy hd hM hMb=>by
          rw [CM]at hy;split at hy
          ·rename_i eq;exact .inl eq
          ·rename_i eq
           rcases h.sep b j _ y L M (dB eq) ho hy rfl hd hL hM hMb.symm with ⟨g1,_⟩ | g1 | g1
           ·cases g1
           ·exact .inr g1
           ·cases y with
            | cells us u kk=>
             cases kk with
             | grown l=>
              obtain⟨_,g2⟩:=h.old j us u l hy b g1;rcases g2 _ ho with g3 | ⟨ws,u',g3,_⟩
              ·cases g3
              ·injection g3 with _ _ g3;cases g3
             | _=>cases g1
            | _=>cases g1)
         (cs':=⟨aE (L.s+o+sLen*i.size) new' cs.toList⟩) hb (by show(aE _ _ _).length=_;rw [kY _ _ _ (by omega)];exact aPS)
         (λj hj=>by rw [Gn,if_neg (by omega)]) (e2:=e) (s2:=L.s+o) (new:=(vs.drop o).take (sLen*i.size)++new)
         (by
          have:=Sj.1;rw [bH];omega)
         (λj v hj=>by
          have aOg:((vs.drop o).take (sLen*i.size)).length=sLen*i.size:=by rw [Sj.1,Ej]
          rw [List.getElem?_append]at hj;rw [Gn];split at hj
          ·rename_i hlt
           rw [aOg]at hlt;rw [if_neg (by omega)];rw [kR,if_pos hlt,kS]at hj;rw [uQ];exact hcv _ _ hj
          ·rename_i hlt
           rw [aOg]at hlt hj;have MC:=(dS.1 hj).1;have:=hn.1;rw [if_pos (by omega),show L.s+o+j-(L.s+o+sLen*i.size)=j-sLen*i.size by omega];exact hn.get hj)
         Pl hLe (by rw [hLm];exact hm) hel uY
        refine⟨_,_,_,_,_,hk,FK (w1:=w.putObj L.b (.cells ⟨aE (L.s+o+sLen*i.size) new' cs.toList⟩ t' fz)) h0 h1 ht Bw hi hlen uA hc (λa ha=>?_) (λe=>by cases e),?_,r1,?_⟩
        ·injection ha with ha
         rw [<-ha,mB];exact hsc
        ·have Sq:=Rn.kD U S.n ⟨L.b,L.s+o,L.e,L.m⟩
         exact VR.oG (o:=0) (n:=sLen+n) (c:=sLen+n) (c':=c') Sq uA (bI _) Yb hmp
        ·exact r2
      ·
        have dF:=FL (w:=w) (ty:=ty) (base:=some ⟨L.b,L.s+o,none⟩) (sLen:=sLen) (sCap:=c') (olds:=aGA) h0 h1 ht Bw hi hz hlen (by omega) VN (run_loadCells (w:=w.drew) _ aGA Ej hcell) hcD
        obtain⟨U',r0,r1,r2⟩:=Xe.fresh (S:=S.set b (.cells vs e' .sA)) (Sj.append hn) (by rw [bH,Ej,MB,<-mG]) hm Ph VI (grownCap_ge w (sLen+n) c' e) (olds:=b::olds)
         (λq hq=>by
          rcases dA.1 hq with rfl | hq
          ·refine⟨aL5,λy hy=>?_⟩
           rw [hob]at hy;injection hy with hy;exact .inr ⟨vs,e',hy.symm⟩
          ·obtain⟨g1,g2⟩:=holds q hq
           refine⟨g1,λy hy=>?_⟩;rcases g2 y hy with g3 | ⟨ws,u,g3,_⟩
           ·exact .inl g3
           ·exact .inr ⟨ws,u,g3⟩)
        exact⟨U',_,_,_,_,hk,dF,r0,r1,r2⟩
     ·cases hk
    ·cases hk
   ·cases CW
 ·cases hk
theorem CN(h:Rel P w0 U S w){ts:Array TypeId}{ty:TypeId}{s s' x x':Value}{K:VK}(hk:pF P ts.toList s x S K=true)(hs:VR U s s')(hx:VR U x x'):
 ∃U' v S' v' w',K v S'=true/\(Builtin.append_ ts ty #[s',x']).run P w= .ok v' w'/\VR U' v v'/\Rel P w0 U' S' w'/\uI U w U' w':=by
 unfold pF at hk;split at hk
 ·rename_i sT xT rest Jq
  have h0:ts[0]? =some sT:=by have:=lT (·[0]?) Jq;simpa using this
  have h1:ts[1]? =some xT:=by have:=lT (·[1]?) Jq;simpa using this
  split at hk
  ·rename_i elem he Bw
   have ht:=gI he;split at hk
   ·rename_i info hi
    split at hk
    ·rename_i size z base sLen sCap NX hz
     split at hk
     ·rename_i Bt
      have Bt:=cT Bt;obtain⟨n,hk,hlen,hf0⟩:=Ek (P:=P) hk hx;split at hk
      ·
        split at hk
        ·rename_i hle
         have hle:=aW hle
         have main:∀XV c',sLen<=c'->s'= .slice XV sLen c'->∃U' v S' v' w',K v S'=true/\(Builtin.append_ ts ty #[s',x']).run P w= .ok v' w'/\VR U' v v'/\Rel P w0 U' S' w'/\uI U w U' w':=by
          intro XV c' hc' e;refine⟨U,_,S,_,w,hk,?_,hs,h,.refl U w⟩;rw [e];exact FK (w1:=w) h0 h1 ht Bw hi hlen (by omega) (hf0 _ w) (λa _=>by rfl) (λ_=>rfl)
         cases hs with
         | flat _=>exact main _ _ hle rfl
         | slice _=>exact main _ _ hle rfl
         | oG _ _ _ _ _=>exact main _ _ (by omega) rfl
         | zQ=>exact main _ _ (by omega) rfl
         | zR _=>exact main _ _ (by omega) rfl
        ·cases hk
      ·obtain⟨new,new',hk,hn,MB,hc,hcD⟩:=XU h hk hx
       rw [bA]at hk;split at hk
       ·rename_i hb
        have hb:=Xn hb;split at hk
        ·rename_i OO
         exact Sp (_x:=x) h h0 h1 ht Bw hi NX hs hlen hn hc (aW OO) hk
        ·rename_i OO
         exact Nz (_x:=x) h h0 h1 ht Bw hi NX hz Bt (Nat.succ_pos _) hs hlen hn MB hc hcD (λe=>by rw [jT e]at OO;cases OO) hb hk
       ·cases hk
     ·cases hk
    ·cases hk
   ·cases hk
  ·cases hk
 ·cases hk
theorem Yc(h:Rel P w0 U S w){ts:Array TypeId}{ty:TypeId}{d d' x x':Value}{K:VK}(hk:Pf P ts.toList d x S K=true)(hd:VR U d d')(hx:VR U x x'):
 ∃v S' v' w',K v S'=true/\(Builtin.copy_ ts ty #[d',x']).run P w= .ok v' w'/\VR U v v'/\Rel P w0 U S' w'/\uI U w U w':=by
 unfold Pf at hk;split at hk
 ·rename_i dT rest Jq
  have h0:ts[0]? =some dT:=by have:=lT (·[0]?) Jq;simpa using this
  split at hk
  ·rename_i elem he
   have ht:=gI he;split at hk
   ·rename_i size base dLen dCap NX
    obtain⟨m,hk,hlen,hf0⟩:=Ek (P:=P) hk hx;rw [bA]at hk;split at hk
    ·rename_i aEO
     refine⟨_,S,.int .i64 0,w,hk,?_,.flat rfl,h,.refl U w⟩
     have main:∀XV c',(Builtin.copy_ ts ty #[.slice XV dLen c',x']).run P w= .ok (.int .i64 0) w:=by
      intro XV c';cases XV with
      | none=>simp only [Builtin.copy_,Rk,Ip,OW,h0,bY,run_underlying ht,dU,hlen,gS NX,aEO,hf0,jU,goInt];rfl
      | some a=>simp only [Builtin.copy_,Rk,Ip,OW,h0,bY,run_underlying ht,dU,hlen,gS NX,aEO,hf0,jU,goInt];rfl
     cases hd with
     | flat _=>exact main _ _
     | slice _=>exact main _ _
     | oG _ _ _ _ _=>exact main _ _
     | zQ=>exact main _ _
     | zR _=>exact main _ _
    ·rename_i n' aEO
     obtain⟨new,new',hk,hn,MB,hc,hcD⟩:=XU h hk hx;split at hk
     ·rename_i i o sp
      split at hk
      ·rename_i CW GM
       rw [jZ]at GM;have GM:=LE hn (dJ.1 GM);rcases hd.jC with ⟨L,c',hL,rfl,_⟩ | ⟨⟨_,aGz⟩,_⟩
       ·obtain⟨S',w',hk,r1,r2,dF⟩:=vQ h hk hL hn GM
        refine⟨_,S',.int .i64 ((n'+1:Nat):Int),w',hk,?_,.flat rfl,r1,r2⟩;simp only [Builtin.copy_,Rk,Ip,OW,h0,bY,run_underlying ht,dU,hlen,gS NX,aEO,hc,dF,jU,goInt]
       ·rw [aGz]at CW;cases CW
      ·cases hk
     ·cases hk
   ·cases hk
  ·cases hk
 ·cases hk
end
section
variable{P:Program}{w0:World}{U:Rn}{S:St}{w:World}
def Out(P:Program)(w0:World)(U:Rn)(w:World)(K:VK)(s:Sem Next):Prop:=
 ∃r U' v S' v' w',K v S'=true/\s.run P w= .ok r w'/\(r= .value v'\/(r= .skip/\v'=undef))/\VR U' v v'/\Rel P w0 U' S' w'/\uI U w U' w'
theorem Out.here(h:Rel P w0 U S w){K:VK}{s:Sem Value}{v v':Value}(hk:K v S=true)(hv:VR U v v')(hr:s.run P w= .ok v' w):Out P w0 U w K (do pure (.value (<-s))):=
 ⟨_,U,v,S,v',w,hk,by rw [bY,hr];rfl,.inl rfl,hv,h,.refl U w⟩
theorem Out.new{K:VK}{s:Sem Value}(h:∃U' v S' v' w',K v S'=true/\s.run P w= .ok v' w'/\VR U' v v'/\Rel P w0 U' S' w'/\uI U w U' w'):Out P w0 U w K (do pure (.value (<-s))):=by
 obtain⟨U',v,S',v',w',hk,hr,hv,h1,h2⟩:=h;exact⟨_,U',v,S',v',w',hk,by rw [bY,hr];rfl,.inl rfl,hv,h1,h2⟩
theorem Out.unit{K:VK}{s:Sem Unit}(h:∃S' w',K undef S'=true/\Rel P w0 U S' w'/\uI U w U w'/\s.run P w= .ok () w'):Out P w0 U w K (do s;pure .skip):=by
 obtain⟨S',w',hk,h1,h2,hr⟩:=h;exact⟨_,U,undef,S',undef,w',hk,by rw [bY,hr];rfl,.inr ⟨rfl,rfl⟩,.tuple rfl (by simp),h1,h2⟩
theorem VR.nat{k:IntKind}{n:Nat}:VR U (.int k (.ofNat n)) (.int k (n:Int)):= .flat rfl
theorem VR.undef:VR U undef undef:= .tuple rfl (by simp)
theorem aBS{ts:Array TypeId}{ty t e:TypeId}{zero:List Value}{n c:Nat}{a:Addr}{w':World}(h0:ts[0]? =some t)(ht:P.underlying t=some (.slice e))(hz:tX P e=some zero)(hn:n≠0)(wC:zero≠[])
 (hs:(storeCells a (List.replicate n zero).flatten).run P w= .ok () w'):(Builtin.clear_ ts ty #[.slice (some a) n c]).run P w= .ok (.tuple #[]) w':=by
 obtain⟨zv,Hh,XB⟩:=BQ hz w
 have hzz:Builtin.zeroCells zv.cells n=⟨(List.replicate n zero).flatten⟩:=by
  have:=GN zero zv.cells XB n wC;have hl:zv.cells.size=zero.length:=by rw [<-XB];rfl
  unfold Builtin.zeroCells;rw [show n*zv.cells.size=n*zero.length by rw [hl]];exact this
 cases n with
 | zero=>exact absurd rfl hn
 | succ n=>simp [Builtin.clear_,h0,run_underlying ht,Hh,hzz,hs]
theorem aEP{ts:Array TypeId}{ty:TypeId}{j:IntKind}{K:Value->Bool}:∀{l l':List Value} {x:Int},TT false l j x K=true->lD U l l'->∃y,K (.int j y)=true/\∀w,(Builtin.min_ ts ty ⟨.int j x::l'⟩).run P w= .ok (.int j y) w:=by
 intro l;induction l with
 | nil=>intro l' x hk hl;cases hl.jP;exact⟨x,hk,λw=>by simp [Builtin.min_]⟩
 | cons v l ih=>
  intro l' x hk hl;obtain⟨v',t',rfl,hv,ht⟩:=hl.cC;cases v with
  | int k y=>
   cases hv.of_flat rfl;have hk:dL (Ns y x) (TT false l j y K) (TT false l j x K)=true:=hk;rw [GR]at hk;by_cases hlt:y<x
   ·rw [aU hlt]at hk
    obtain⟨z,hz,hr⟩:=ih hk ht;refine⟨z,hz,λw=>?_⟩;have:=hr w;simp only [Builtin.min_,Rs,Builtin.min2,if_pos hlt,bY,jU,dU]at this ⊢;exact this
   ·rw [aR hlt]at hk
    obtain⟨z,hz,hr⟩:=ih hk ht;refine⟨z,hz,λw=>?_⟩;have:=hr w;simp only [Builtin.min_,Rs,Builtin.min2,if_neg hlt,bY,jU,dU]at this ⊢;exact this
  | _=>cases hk
theorem aEQ{ts:Array TypeId}{ty:TypeId}{j:IntKind}{K:Value->Bool}:∀{l l':List Value} {x:Int},TT true l j x K=true->lD U l l'->∃y,K (.int j y)=true/\∀w,(Builtin.max_ ts ty ⟨.int j x::l'⟩).run P w= .ok (.int j y) w:=by
 intro l;induction l with
 | nil=>intro l' x hk hl;cases hl.jP;exact⟨x,hk,λw=>by simp [Builtin.max_]⟩
 | cons v l ih=>
  intro l' x hk hl;obtain⟨v',t',rfl,hv,ht⟩:=hl.cC;cases v with
  | int k y=>
   cases hv.of_flat rfl;have hk:dL (Ns x y) (TT true l j y K) (TT true l j x K)=true:=hk;rw [GR]at hk;by_cases hlt:x<y
   ·rw [aU hlt]at hk
    obtain⟨z,hz,hr⟩:=ih hk ht;refine⟨z,hz,λw=>?_⟩;have:=hr w;simp only [Builtin.max_,Rs,Builtin.max2,if_pos hlt,bY,jU,dU]at this ⊢;exact this
   ·rw [aR hlt]at hk
    obtain⟨z,hz,hr⟩:=ih hk ht;refine⟨z,hz,λw=>?_⟩;have:=hr w;simp only [Builtin.max_,Rs,Builtin.max2,if_neg hlt,bY,jU,dU]at this ⊢;exact this
  | _=>cases hk
theorem Ju(h:Rel P w0 U S w){b:Builtin}{ts:Array TypeId}{ty:TypeId}{cs:Array Bool}{args dR:List Value}{K:VK}(hk:nY P b ts.toList args S K=true)(ha:lD U args dR):
 Out P w0 U w K (builtin b ts ty cs ⟨dR⟩):=by
 unfold nY at hk;split at hk
 ·
   rename_i x;obtain⟨x',t',rfl,hx,ht'⟩:=ha.cC;cases ht'.jP;split at hk
   ·rename_i t rest Jq
    have h0:ts[0]? =some t:=by have:=lT (·[0]?) Jq;simpa using this
    split at hk
    ·rename_i base n c
     split at hk
     ·rename_i e he
      have hu:=gI he;refine Out.here h hk (v':= .int .i64 (n:Int)) .nat ?_;have main:∀b' c',(Builtin.len_ ts ty ⟨[.slice b' n c']⟩).run P w= .ok (.int .i64 (n:Int)) w:=λb' c'=>by simp [Builtin.len_,h0,run_underlying hu,goInt]
      cases hx with
      | flat _=>exact main _ _
      | slice _=>exact main _ _
      | oG _ _ _ _ _=>exact main _ _
      | zQ=>exact main _ _
      | zR _=>exact main _ _
     ·cases hk
    ·rename_i s
     cases hx.of_flat rfl;split at hk
     ·rename_i hu
      rw [kM]at hk;refine Out.here h hk (v':= .int .i64 (s.data.toList.length:Int)) .nat ?_;simp [Builtin.len_,h0,run_underlying hu,goInt]
     ·cases hk
    ·rename_i r
     split at hk
     ·rename_i q hm
      have hu:=yL hm;rcases GD hk with ⟨e1,tZ⟩ | ⟨r,es,c,e1,ho,tZ⟩
      ·rw [e1]at hx
       cases hx.of_flat rfl;exact Out.here h tZ (v':= .int .i64 0) (.flat rfl) (by simp [Builtin.len_,h0,run_underlying hu,goInt])
      ·rw [e1]at hx
       obtain⟨L,hL,rfl⟩:=hx.FI;obtain⟨iW,_,hb,SF⟩:=h.map ho hL;simp only [kM]at tZ;refine Out.here h tZ (v':= .int .i64 (es.length:Int)) .nat ?_;have hl:iW.size=es.length:=by rw [SF.1];rfl
       simp [Builtin.len_,h0,run_underlying hu,MapKept.run_getObj_map hb,goInt,hl]
     ·cases hk
    ·split at hk
     ·rename_i n e hu
      exact Out.here h hk (v':= .int .i64 (n:Int)) .nat (by simp [Builtin.len_,h0,run_underlying hu,goInt])
     ·cases hk
    ·cases hk
   ·cases hk
 ·obtain⟨s',t1,rfl,hs,ht1⟩:=ha.cC
  obtain⟨x',t2,rfl,hx,ht2⟩:=ht1.cC;cases ht2.jP;exact Out.new (CN h hk hs hx)
 ·obtain⟨s',t1,rfl,hs,ht1⟩:=ha.cC
  obtain⟨x',t2,rfl,hx,ht2⟩:=ht1.cC;cases ht2.jP;obtain⟨v,S',v',w',h1,h2,h3,h4,h5⟩:=Yc h hk hs hx;exact Out.new ⟨U,v,S',v',w',h1,h2,h3,h4,h5⟩
 ·obtain⟨s',t1,rfl,hs,ht1⟩:=ha.cC
  obtain⟨x',t2,rfl,hx,ht2⟩:=ht1.cC;cases ht2.jP;obtain⟨S',w',h1,h2,h3,h4⟩:=Nv (t:=ty) h hk hs hx;exact Out.new ⟨U,_,S',_,w',h1,h4,.undef,h2,h3⟩
 ·rename_i j x l
  obtain⟨s',t1,rfl,hs,ht1⟩:=ha.cC;cases hs.of_flat rfl;obtain⟨y,hk,dF⟩:=aEP hk ht1;exact Out.here h hk (.flat rfl) (dF w)
 ·rename_i j x l
  obtain⟨s',t1,rfl,hs,ht1⟩:=ha.cC;cases hs.of_flat rfl;obtain⟨y,hk,dF⟩:=aEQ hk ht1;exact Out.here h hk (.flat rfl) (dF w)
 ·
   rename_i x;obtain⟨x',t',rfl,hx,ht'⟩:=ha.cC;cases ht'.jP;split at hk
   ·rename_i t rest Jq
    have h0:ts[0]? =some t:=by have:=lT (·[0]?) Jq;simpa using this
    split at hk
    ·rename_i c he
     have hu:=gI he;cases hx.of_flat rfl;exact Out.here h hk (v':= .int .i64 (c:Int)) .nat (by simp [Builtin.cap_,h0,run_underlying hu,goInt])
    ·rename_i c he
     have hu:=gI he;rcases hx.jC with ⟨L,c1,hL,rfl,⟨_,rfl⟩ | ⟨hs,_⟩⟩ | ⟨⟨_,hs⟩,_⟩
     ·exact Out.here h hk (v':= .int .i64 (c1:Int)) .nat (by simp [Builtin.cap_,h0,run_underlying hu,goInt])
     ·cases hs
     ·cases hs
    ·cases hk
   ·cases hk
 ·
   rename_i base n c;obtain⟨s',t1,rfl,hs,ht1⟩:=ha.cC;cases ht1.jP;split at hk
   ·rename_i t rest Jq
    have h0:ts[0]? =some t:=by have:=lT (·[0]?) Jq;simpa using this
    split at hk
    ·rename_i elem he
     have hu:=gI he;split at hk
     ·rename_i size zero hsz hz
      split at hk
      ·cases hs.of_flat rfl
       exact Out.here h hk .undef (v':= .tuple #[]) (by simp [Builtin.clear_,h0,run_underlying hu])
      ·refine Out.here h hk .undef (v':= .tuple #[]) ?_
       have main:∀b' c',(Builtin.clear_ ts ty ⟨[.slice b' 0 c']⟩).run P w= .ok (.tuple #[]) w:=λb' c'=>by cases b'<;>simp [Builtin.clear_,h0,run_underlying hu]
       cases hs with
       | flat _=>exact main _ _
       | slice _=>exact main _ _
       | oG _ _ _ _ _=>exact main _ _
       | zQ=>exact main _ _
       | zR _=>exact main _ _
      ·rename_i i o sp n
       split at hk
       ·rename_i q CW Ef Ph
        rw [CL]at hk;rw [jZ]at Ef;have aOh:∀v∈zero,bE v=true:=dJ.1 Ef;have Ph:=cT Ph;have Pg:lD U (List.replicate (n+1) zero).flatten (List.replicate (n+1) zero).flatten:=(lD.flat aOh).flatten _;rcases hs.jC with ⟨L,c',hL,rfl,_⟩ | ⟨⟨_,aGz⟩,_⟩
        ·obtain⟨S',w',hk,r1,r2,dF⟩:=vQ h hk hL Pg (λv hv=>by
          simp only [List.mem_flatten,List.mem_replicate]at hv;obtain⟨l,⟨_,rfl⟩,hv⟩:=hv;have:=aOh v hv;cases v<;>first | rfl | (simp [bE]at this))
         exact Out.new ⟨U,_,S',_,w',hk,aBS h0 hu hz (by omega) (by intro e;rw [e]at Ph;simp at Ph) dF,.undef,r1,r2⟩
        ·rw [aGz]at CW;cases CW
       ·cases hk
     ·cases hk
    ·cases hk
   ·cases hk
 ·cases hk
end
theorem TY{P:Program}{t:TypeId}{i:TypeInfo}(h:P.info? t=some i)(w:World):(typeInfo t).run P w= .ok i w:=by
 simp [typeInfo,h]
theorem Oa{P:Program}{t:TypeId}{name:String}{g:FuncId}(h:GK P t name=some g)(x:Value)(w:World):(nilAhead (P.types.size+Made.depth) t x name).run P w= .ok (some false) w:=by
 unfold GK at h;split at h
 ·rename_i info d hi hd
  split at h
  ·rename_i m hm
   split at h
   ·rename_i g' pr hp hf
    have hp:m.path= #[]:=iR.1 (by simpa using hp);have aGD:P.types.size+Made.depth=(P.types.size+99)+1:=rfl;rw [aGD];unfold nilAhead;simp only [bY,TY hi,dU,hm,hp];unfold followBlind;simp only [jU,dU,hf];cases pr with
    | true=>rfl
    | false=>
     simp only [bY,run_underlying hd,dU];revert h hd;cases d<;>intro hd h<;>first | rfl | cases h
   ·cases h
  ·cases h
 ·cases h
theorem IU{P:Program}{t:TypeId}{name:String}{g:FuncId}(h:GK P t name=some g)(x:Value)(w:World):
 (do
  if(<-nilAhead ((<-program).types.size+Made.depth) t x name) != some false then
   unsupported (.noEntry "op/nilCheck.the method's receiver behind this interface value is a nil pointer, or cannot be seen to be none, and the arguments act or may panic (ledger 612)")
  pure (.value (.func (.method name) ⟨[.iface t x]⟩ ⟨[]⟩)):Sem Go.Next).run P w= .ok (.value (.func (.method name) ⟨[.iface t x]⟩ ⟨[]⟩)) w:=by
 simp only [bY,run_program,dU,Oa h];rfl
section
variable{E:Env}{w0:World}{U:Rn}{S:St}{w:World}
theorem lD.map_toArray{f:Operand->Value}{vs:List Value}{xs:Array Operand}(h:lD U vs (xs.toList.map f)):lD U (⟨vs⟩:Array Value).toList (xs.map f).toList:=by simpa using h
def Quiet(o:Oper):Prop:=∀c,o.op= .call c->∃b,c.callee= .builtin b
theorem aER(h:Rel E.P w0 U S w){A:aO}{a:Act}(hA:xX E.P U A a){o:Oper}(hq:Quiet o){K:VK}(hk:wW E o A S K=true):Out E.P w0 U w K (execOp a.eval o):=by
 unfold wW at hk;unfold execOp;split at hk<;>rename_i OP<;>simp only [OP]
 ·obtain⟨v,hk,hv⟩:=aK h hA hk
  exact⟨_,U,v,S,_,w,hk,rfl,.inl rfl,hv,h,.refl U w⟩
 ·obtain⟨v,hk,hv⟩:=aK h hA hk
  exact⟨_,U,v,S,_,w,hk,rfl,.inl rfl,hv,h,.refl U w⟩
 ·obtain⟨c,hk,hc⟩:=aK h hA hk
  obtain⟨x,hk,hx⟩:=aK h hA hk;obtain⟨y,hk,hy⟩:=aK h hA hk;split at hk
  ·have:=hc.of_flat rfl
   exact⟨_,U,_,S,_,w,hk,by simp [this,asBool],.inl rfl,hx,h,.refl U w⟩
  ·have:=hc.of_flat rfl
   exact⟨_,U,_,S,_,w,hk,by simp [this,asBool],.inl rfl,hy,h,.refl U w⟩
  ·cases hk
 ·exact Out.new (Sg h hk)
 ·obtain⟨v,hk,hv⟩:=aK h hA hk
  exact Out.new (aBO h hk hv)
 ·obtain⟨v,v',hk,hv,hr⟩:=XP h hA hk
  exact Out.here h hk hv (hr w)
 ·exact Out.new (XQ h hA hk)
 ·obtain⟨x,hk,hx⟩:=aK h hA hk
  obtain⟨v,v',hk,hv,hr⟩:=PW h hk hx;exact Out.here h hk hv hr
 ·obtain⟨x,hk,hx⟩:=aK h hA hk
  obtain⟨y,hk,hy⟩:=aK h hA hk;exact Out.unit (Su h hk hx hy)
 ·obtain⟨x,hk,hx⟩:=aK h hA hk
  split at hk
  ·rename_i ad
   obtain⟨i,off,sp⟩:=ad;have hx2:=hx;obtain⟨_,L,hL,e⟩:=hx.FF;rw [e]at hx2 ⊢;exact⟨_,U,_,S,_,w,hk,rfl,.inl rfl,hx2,h,.refl U w⟩
  ·rename_i f x1 x2
   generalize hg:a.eval _=v' at hx ⊢;cases hx with
   | flat hf=>simp [bE]at hf
   | func h1 h2 h3 h4=>exact⟨_,U,_,S,_,w,hk,rfl,.inl rfl,.func h1 h2 h3 h4,h,.refl U w⟩
  ·rename_i f x1 x2
   generalize hg:a.eval _=v' at hx ⊢;cases hx with
   | flat hf=>simp [bE]at hf
   | yield h1=>exact⟨_,U,_,S,_,w,hk,rfl,.inl rfl,.yield h1,h,.refl U w⟩
  ·rename_i s t x1
   generalize hg:a.eval _=v' at hx ⊢;cases hx with
   | flat hf=>simp [bE]at hf
   | GS h1=>
    cases h1 with
    | flat hf=>simp [bE]at hf
    | iface h2=>
     split at hk
     ·rename_i g hm
      exact⟨_,U,_,S,_,w,hk,IU hm _ w,.inl rfl,.GS (.iface h2),h,.refl U w⟩
     ·cases hk
  ·rename_i t x1
   generalize hg:a.eval _=v' at hx ⊢;cases hx with
   | flat hf=>simp [bE]at hf
   | iface h1=>exact⟨_,U,_,S,_,w,hk,rfl,.inl rfl,.iface h1,h,.refl U w⟩
  ·cases hk
 ·obtain⟨x,hk,hx⟩:=aK h hA hk
  obtain⟨y,hk,hy⟩:=aK h hA hk;obtain⟨v,hk,hf,hr⟩:=Jv hk hx hy;exact Out.here h hk (.flat hf) (hr _ _ w)
 ·obtain⟨x,hk,hx⟩:=aK h hA hk
  obtain⟨v,hk,hf,hr⟩:=Pn (P:=E.P) hk hx;exact Out.here h hk (.flat hf) (hr w)
 ·obtain⟨x,hk,hx⟩:=aK h hA hk
  exact Out.new (Xr h hk hx)
 ·obtain⟨x,hk,hx⟩:=aK h hA hk
  split at hk
  ·cases hk
  ·rename_i d hd hu
   refine Out.here h hk (.iface hx) ?_;simp only [Instr.makeInterface,bY,run_underlying hu,dU];cases d<;>first | rfl | exact absurd hu (hd _)
  ·cases hk
 ·split at hk
  ·obtain⟨x,hk,hx⟩:=yA h hA hk
   obtain⟨y,hk,hy⟩:=yA h hA hk;have hx:=hx.map_toArray;have hy:=hy.map_toArray;exact Out.here h hk (.func hx.1 hy.1 hx.2 hy.2) rfl
  ·split at hk
   ·rename_i x VJ hx2
    obtain⟨v,hk,hv⟩:=aK h hA hk;have e1:=iR.1 (show _=(⟨[x]⟩:Array Operand).toList from VJ);have e2:=iR.1 (show _=(⟨[]⟩:Array Operand).toList from hx2);subst e1 e2;exact Out.here h hk (.GS hv) (by simp [Instr.makeFunc])
   ·cases hk
  ·cases hk
 ·exact Out.new (PS h hk)
 ·obtain⟨x,hk,hx⟩:=aK h hA hk
  exact Out.new (Jr h hx hk)
 ·obtain⟨x,hk,hx⟩:=aK h hA hk
  exact Out.new (Nx h hk hx)
 ·obtain⟨x,hk,hx⟩:=aK h hA hk
  split at hk
  ·cases hk
  ·obtain⟨v,S',v',w',h1,h2,h3,h4,h5⟩:=Xy (ty:=o.type) h hk hx
   exact Out.new ⟨U,v,S',v',w',h1,h2,h3,h4,h5⟩
 ·obtain⟨x,hk,hx⟩:=aK h hA hk
  obtain⟨v,v',hk,hv,hr⟩:=Sn h hk hx;exact Out.here h hk hv hr
 ·rename_i x xT as ok
  obtain⟨v,hk,hv⟩:=aK h hA hk;split at hk
  ·cases hk
  ·rename_i t u d hni hd
   generalize a.eval x=v' at hv ⊢;cases hv with
   | flat hf=>simp [bE]at hf
   | iface hu=>
    cases hb:Nat.beq t as with
    | false=>rw [hb]at hk;cases ok<;>cases hk
    | true=>
     rw [hb]at hk;have e:=cT hb;cases ok with
     | true=>exact Out.here h hk (.rI (.cons hu (.cons (.flat rfl) (.nil U)))) (PT hd (λms e=>hni ms e) e)
     | false=>exact Out.here h hk hu (PT hd (λms e=>hni ms e) e)
  ·cases hk
 ·obtain⟨x,hk,hx⟩:=aK h hA hk
  obtain⟨y,hk,hy⟩:=aK h hA hk;exact Out.new (Br h hk hx hy)
 ·rename_i t x lo hi mx
  have hmh:mx.map a.eval=none\/hi.map a.eval≠none:=by
   cases mx with
   | none=>exact .inl rfl
   | some m=>cases hi with
    | none=>exact absurd hk (by simp)
    | some _=>exact .inr (by simp)
  replace hk:(tC A x λx=>VC A lo λlo=>VC A hi λhi=>VC A mx λmx=>sJ E.P t x lo hi mx S λv=>K v S)=true:=by
   cases mx<;>cases hi<;>first | exact hk | cases hk
  obtain⟨x,hk,hx⟩:=aK h hA hk;obtain⟨lo,hk,hlo⟩:=BU h hA hk;obtain⟨hi,hk,hhi⟩:=BU h hA hk;obtain⟨mx,hk,hmx⟩:=BU h hA hk
  have hO:∀(x:Option Operand) (v:Option Value),(v=none/\x=none\/∃u y,v=some u/\x=some y/\VR U u (a.eval y))->Gp U v (x.map a.eval):=by
   intro x v hv;rcases hv with ⟨rfl,rfl⟩ | ⟨u,y,rfl,rfl,hr⟩
   ·exact .inl ⟨rfl,rfl⟩
   ·exact .inr ⟨u,_,rfl,rfl,hr⟩
  obtain⟨v,v',hk,hv,hr⟩:=XW h hk hx (hO _ _ hlo) (hO _ _ hhi) (hO _ _ hmx) hmh;exact Out.here h hk hv (hr w)
 ·obtain⟨x,hk,hx⟩:=aK h hA hk
  obtain⟨v,v',hk,hv,hr⟩:=KZ hk hx;exact Out.here h hk hv (hr w)
 ·obtain⟨x,hk,hx⟩:=aK h hA hk
  obtain⟨v,v',hk,hv,hr⟩:=XM hk hx;exact Out.here h hk hv (hr w)
 ·obtain⟨x,hk,hx⟩:=aK h hA hk
  obtain⟨y,hk,hy⟩:=aK h hA hk;obtain⟨v,v',hk,hv,hr⟩:=KY hk hx hy;exact Out.here h hk hv (hr w)
 ·obtain⟨x,hk,hx⟩:=aK h hA hk
  obtain⟨y,hk,hy⟩:=aK h hA hk;obtain⟨v,v',hk,hv,hr⟩:=XN hk hx hy;exact Out.here h hk hv (hr w)
 ·obtain⟨x,hk,hx⟩:=aK h hA hk
  obtain⟨y,hk,hy⟩:=aK h hA hk;obtain⟨v,v',hk,hv,hr⟩:=TV h hk hx hy;exact Out.here h hk hv hr
 ·obtain⟨x,hk,hx⟩:=aK h hA hk
  obtain⟨y,hk,hy⟩:=aK h hA hk;obtain⟨z,hk,hz⟩:=aK h hA hk;exact Out.unit (LC h hk hx hy hz)
 ·obtain⟨x,hk,hx⟩:=aK h hA hk
  obtain⟨y,hk,hy⟩:=aK h hA hk;obtain⟨z,hk,hz⟩:=aK h hA hk;exact Out.unit (LC h hk hx hy hz)
 ·obtain⟨x,hk,hx⟩:=aK h hA hk
  obtain⟨y,hk,hy⟩:=aK h hA hk;obtain⟨v,S',v',w',hk,hv,r1,r2,hr⟩:=Gm h hk hx hy;exact Out.new ⟨U,v,S',v',w',hk,hr,hv,r1,r2⟩
 ·obtain⟨x,hk,hx⟩:=aK h hA hk
  obtain⟨y,hk,hy⟩:=aK h hA hk;obtain⟨z,hk,hz⟩:=aK h hA hk;exact Out.unit (XT h hk hx hy hz)
 ·rename_i tt ix
  obtain⟨x,hk,hx⟩:=aK h hA hk;split at hk
  ·obtain⟨vs',e,hl⟩:=hx.LF
   obtain⟨v,hv,hk⟩:=LA hk;obtain⟨v',FG,hr⟩:=hl.get hv;refine Out.here h hk hr ?_;rw [e];have:vs'[ix]? =some v':=by simpa using FG
   simp [Instr.extract,this]
  ·cases hk
 ·rename_i c
  obtain⟨b,hb⟩:=hq c OP;unfold mO at hk;obtain⟨args,hk,NY⟩:=yA h hA hk;rw [hb]at hk;simp only at hk;have:=Ju (ty:=o.type) (cs:=c.args.map λ| .const _=>true | _=>false) h hk NY;have e:(⟨c.args.toList.map a.eval⟩:Array Value)=c.args.map a.eval:=by apply iR.1;simp
  rw [e]at this
  have e2:(do let d<-resolve a.eval c o.type;invoke d.target d.args:Sem Next)=builtin b c.argTypes o.type (c.args.map λ| .const _=>true | _=>false) (c.args.map a.eval):=by
   unfold resolve;rw [hb];rfl
  rw [e2];exact this
 ·cases hk
end
end Go.Am
