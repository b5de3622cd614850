/- AM: one operation. -/
import Derived.Test.YtpcfidjmdfhigaaGreatDoorGa
import Derived.TacticsIn
import Derived.RangeFuncLeaves
import Derived.Scope
import Derived.OrdersIn

noncomputable section
namespace Go.Am
open Go.RowKit Go.MapKept
theorem Ab{P:Program}{t:TypeId}{i:TypeInfo} (h:P.info? t=some i) (w:World):(typeInfo t).run P w= .ok i w:=by
 simp [typeInfo,h]
theorem Tk{P:Program}{t:TypeId}{name:String}{g:FuncId} (h:KT P t name=some g) (x:Value) (w:World):(nilAhead (P.types.size+Made.depth) t x name).run P w= .ok (some false) w:=by
 unfold KT at h;split at h
 ·rename_i info d hi hd
  split at h
  ·rename_i m hm
   split at h
   ·rename_i g' pr hp hf
    have hp:m.path= #[]:=Array.toList_inj.1 (by simpa using hp);have aHJ:P.types.size+Made.depth=(P.types.size+99)+1:=rfl;rw [aHJ];unfold nilAhead;simp only [cP,Ab hi,eE,hm,hp];unfold followBlind;simp only [kJ,eE,hf];cases pr with
    | true=>rfl
    | false=>
     simp only [cP,run_underlying hd,eE];revert h hd;cases d<;>intro hd h<;>first | rfl | cases h
   ·cases h
  ·cases h
 ·cases h
theorem NI{P:Program}{t:TypeId}{name:String}{g:FuncId} (h:KT P t name=some g) (x:Value) (w:World):
 (do
  if(<-nilAhead ((<-program).types.size+Made.depth) t x name) != some false then
   unsupported (.noEntry "op/nilCheck.the method's receiver behind this interface value is a nil pointer, or cannot be seen to be none, and the arguments act or may panic (ledger 612)")
  pure (.value (.func (.method name) ⟨[.iface t x]⟩ ⟨[]⟩)):Sem Go.Next).run P w= .ok (.value (.func (.method name) ⟨[.iface t x]⟩ ⟨[]⟩)) w:=by
 simp only [cP,run_program,eE,Tk h];rfl
section ops
variable{E:Env}{w0:World}{U:Rn}{S:St}{w:World}
theorem lM.map_toArray{f:Operand->Value}{vs:List Value}{xs:Array Operand} (h:lM U vs (xs.toList.map f)):lM U (⟨vs⟩:Array Value).toList (xs.map f).toList:=by simpa using h
def Quiet (o:Oper):Prop:=∀c,o.op= .call c->∃b,c.callee= .builtin b
theorem aF4 (h:Rel E.P w0 U S w){A:bC}{a:Act} (hA:BI E.P U A a){o:Oper} (hq:Quiet o){K:VK} (hk:AD E o A S K=true):Out E.P w0 U w K (execOp a.eval o):=by
 unfold AD at hk;unfold execOp;split at hk<;>rename_i Ot<;>simp only [Ot]
 ·obtain⟨v,hk,hv⟩:=aV h hA hk
  exact⟨_,U,v,S,_,w,hk,rfl,.inl rfl,hv,h,.refl U w⟩
 ·obtain⟨v,hk,hv⟩:=aV h hA hk
  exact⟨_,U,v,S,_,w,hk,rfl,.inl rfl,hv,h,.refl U w⟩
 ·obtain⟨c,hk,hc⟩:=aV h hA hk
  obtain⟨x,hk,hx⟩:=aV h hA hk;obtain⟨y,hk,hy⟩:=aV h hA hk;split at hk
  ·have:=hc.of_flat rfl
   exact⟨_,U,_,S,_,w,hk,by simp [this,asBool],.inl rfl,hx,h,.refl U w⟩
  ·have:=hc.of_flat rfl
   exact⟨_,U,_,S,_,w,hk,by simp [this,asBool],.inl rfl,hy,h,.refl U w⟩
  ·cases hk
 ·exact Out.new (Xj h hk)
 ·obtain⟨v,hk,hv⟩:=aV h hA hk
  exact Out.new (aCM h hk hv)
 ·obtain⟨v,v',hk,hv,hr⟩:=Du h hA hk
  exact Out.here h hk hv (hr w)
 ·exact Out.new (Dv h hA hk)
 ·obtain⟨x,hk,hx⟩:=aV h hA hk
  obtain⟨v,v',hk,hv,hr⟩:=WE h hk hx;exact Out.here h hk hv hr
 ·obtain⟨x,hk,hx⟩:=aV h hA hk
  obtain⟨y,hk,hy⟩:=aV h hA hk;exact Out.unit (Xr h hk hx hy)
 ·obtain⟨x,hk,hx⟩:=aV h hA hk
  split at hk
  ·rename_i ad
   obtain⟨i,off,sp⟩:=ad;have hx2:=hx;obtain⟨_,L,hL,e⟩:=hx.JT;rw [e]at hx2 ⊢;exact⟨_,U,_,S,_,w,hk,rfl,.inl rfl,hx2,h,.refl U w⟩
  ·rename_i f x1 x2
   generalize hg:a.eval _=v' at hx ⊢;cases hx with
   | flat hf=>simp [bW]at hf
   | func h1 h2 h3 h4=>exact⟨_,U,_,S,_,w,hk,rfl,.inl rfl,.func h1 h2 h3 h4,h,.refl U w⟩
  ·rename_i f x1 x2
   generalize hg:a.eval _=v' at hx ⊢;cases hx with
   | flat hf=>simp [bW]at hf
   | yield h1=>exact⟨_,U,_,S,_,w,hk,rfl,.inl rfl,.yield h1,h,.refl U w⟩
  ·rename_i s t x1
   generalize hg:a.eval _=v' at hx ⊢;cases hx with
   | flat hf=>simp [bW]at hf
   | KZ h1=>
    cases h1 with
    | flat hf=>simp [bW]at hf
    | iface h2=>
     split at hk
     ·rename_i g hm
      exact⟨_,U,_,S,_,w,hk,NI hm _ w,.inl rfl,.KZ (.iface h2),h,.refl U w⟩
     ·cases hk
  ·rename_i t x1
   generalize hg:a.eval _=v' at hx ⊢;cases hx with
   | flat hf=>simp [bW]at hf
   | iface h1=>exact⟨_,U,_,S,_,w,hk,rfl,.inl rfl,.iface h1,h,.refl U w⟩
  ·cases hk
 ·obtain⟨x,hk,hx⟩:=aV h hA hk
  obtain⟨y,hk,hy⟩:=aV h hA hk;obtain⟨v,hk,hf,hr⟩:=Ov hk hx hy;exact Out.here h hk (.flat hf) (hr _ _ w)
 ·obtain⟨x,hk,hx⟩:=aV h hA hk
  obtain⟨v,hk,hf,hr⟩:=Ve (P:=E.P) hk hx;exact Out.here h hk (.flat hf) (hr w)
 ·obtain⟨x,hk,hx⟩:=aV h hA hk
  exact Out.new (aAP h hk hx)
 ·obtain⟨x,hk,hx⟩:=aV h hA hk
  split at hk
  ·cases hk
  ·rename_i d hd hu
   refine Out.here h hk (.iface hx) ?_;simp only [Instr.makeInterface,cP,run_underlying hu,eE];cases d<;>first | rfl | exact aX hu (hd _)
  ·cases hk
 ·split at hk
  ·obtain⟨x,hk,hx⟩:=BM h hA hk
   obtain⟨y,hk,hy⟩:=BM h hA hk;have hx:=hx.map_toArray;have hy:=hy.map_toArray;exact Out.here h hk (.func hx.1 hy.1 hx.2 hy.2) rfl
  ·split at hk
   ·rename_i x ZI hx2
    obtain⟨v,hk,hv⟩:=aV h hA hk;have e1:=Array.toList_inj.1 (show _=(⟨[x]⟩:Array Operand).toList from ZI);have e2:=Array.toList_inj.1 (show _=(⟨[]⟩:Array Operand).toList from hx2);subst e1 e2;exact Out.here h hk (.KZ hv) (by simp [Instr.makeFunc])
   ·cases hk
  ·cases hk
 ·exact Out.new (WB h hk)
 ·obtain⟨x,hk,hx⟩:=aV h hA hk
  exact Out.new (Ok h hx hk)
 ·obtain⟨x,hk,hx⟩:=aV h hA hk
  exact Out.new (Te h hk hx)
 ·obtain⟨x,hk,hx⟩:=aV h hA hk
  split at hk
  ·cases hk
  ·obtain⟨v,S',v',w',h1,h2,h3,h4,h5⟩:=aAV (ty:=o.type) h hk hx
   exact Out.new ⟨U,v,S',v',w',h1,h2,h3,h4,h5⟩
 ·obtain⟨x,hk,hx⟩:=aV h hA hk
  obtain⟨v,v',hk,hv,hr⟩:=Xn h hk hx;exact Out.here h hk hv hr
 ·rename_i x xT as ok
  obtain⟨v,hk,hv⟩:=aV h hA hk;split at hk
  ·cases hk
  ·rename_i t u d hni hd
   generalize a.eval x=v' at hv ⊢;cases hv with
   | flat hf=>simp [bW]at hf
   | iface hu=>
    cases hb:Nat.beq t as with
    | false=>rw [hb]at hk;cases ok<;>cases hk
    | true=>
     rw [hb]at hk;have e:=dE hb;cases ok with
     | true=>exact Out.here h hk (.pO (.cons hu (.cons (.flat rfl) (.nil U)))) (WC hd (fun ms e=>hni ms e) e)
     | false=>exact Out.here h hk hu (WC hd (fun ms e=>hni ms e) e)
  ·cases hk
 ·obtain⟨x,hk,hx⟩:=aV h hA hk
  obtain⟨y,hk,hy⟩:=aV h hA hk;exact Out.new (Hz h hk hx hy)
 ·rename_i t x lo hi mx
  have hmh:mx.map a.eval=none\/hi.map a.eval≠none:=by
   cases mx with
   | none=>exact .inl rfl
   | some m=>cases hi with
    | none=>exact aX hk (by simp)
    | some _=>exact .inr (by simp)
  replace hk:(vM A x fun x=>Bz A lo fun lo=>Bz A hi fun hi=>Bz A mx fun mx=>uQ E.P t x lo hi mx S fun v=>K v S)=true:=by
   cases mx<;>cases hi<;>first | exact hk | cases hk
  obtain⟨x,hk,hx⟩:=aV h hA hk;obtain⟨lo,hk,hlo⟩:=FU h hA hk;obtain⟨hi,hk,hhi⟩:=FU h hA hk;obtain⟨mx,hk,hmx⟩:=FU h hA hk
  have hO:∀(x:Option Operand) (v:Option Value),(v=none/\x=none\/∃u y,v=some u/\x=some y/\VR U u (a.eval y))->Lh U v (x.map a.eval):=by
   intro x v hv;rcases hv with ⟨rfl,rfl⟩ | ⟨u,y,rfl,rfl,hr⟩
   ·exact .inl ⟨rfl,rfl⟩
   ·exact .inr ⟨u,_,rfl,rfl,hr⟩
  obtain⟨v,v',hk,hv,hr⟩:=Eb h hk hx (hO _ _ hlo) (hO _ _ hhi) (hO _ _ hmx) hmh;exact Out.here h hk hv (hr w)
 ·obtain⟨x,hk,hx⟩:=aV h hA hk
  obtain⟨v,v',hk,hv,hr⟩:=PS hk hx;exact Out.here h hk hv (hr w)
 ·obtain⟨x,hk,hx⟩:=aV h hA hk
  obtain⟨v,v',hk,hv,hr⟩:=Dr hk hx;exact Out.here h hk hv (hr w)
 ·obtain⟨x,hk,hx⟩:=aV h hA hk
  obtain⟨y,hk,hy⟩:=aV h hA hk;obtain⟨v,v',hk,hv,hr⟩:=PR hk hx hy;exact Out.here h hk hv (hr w)
 ·obtain⟨x,hk,hx⟩:=aV h hA hk
  obtain⟨y,hk,hy⟩:=aV h hA hk;obtain⟨v,v',hk,hv,hr⟩:=Ds hk hx hy;exact Out.here h hk hv (hr w)
 ·obtain⟨x,hk,hx⟩:=aV h hA hk
  obtain⟨y,hk,hy⟩:=aV h hA hk;obtain⟨v,v',hk,hv,hr⟩:=ZZ h hk hx hy;exact Out.here h hk hv hr
 ·obtain⟨x,hk,hx⟩:=aV h hA hk
  obtain⟨y,hk,hy⟩:=aV h hA hk;obtain⟨z,hk,hz⟩:=aV h hA hk;exact Out.unit (PW h hk hx hy hz)
 ·obtain⟨x,hk,hx⟩:=aV h hA hk
  obtain⟨y,hk,hy⟩:=aV h hA hk;obtain⟨z,hk,hz⟩:=aV h hA hk;exact Out.unit (PW h hk hx hy hz)
 ·obtain⟨x,hk,hx⟩:=aV h hA hk
  obtain⟨y,hk,hy⟩:=aV h hA hk;obtain⟨v,S',v',w',hk,hv,r1,r2,hr⟩:=Lg h hk hx hy;exact Out.new ⟨U,v,S',v',w',hk,hr,hv,r1,r2⟩
 ·obtain⟨x,hk,hx⟩:=aV h hA hk
  obtain⟨y,hk,hy⟩:=aV h hA hk;obtain⟨z,hk,hz⟩:=aV h hA hk;exact Out.unit (Dx h hk hx hy hz)
 ·rename_i tt ix
  obtain⟨x,hk,hx⟩:=aV h hA hk;split at hk
  ·obtain⟨vs',e,hl⟩:=hx.PX
   obtain⟨v,hv,hk⟩:=PT hk;obtain⟨v',PU,hr⟩:=hl.get hv;refine Out.here h hk hr ?_;rw [e];have:vs'[ix]? =some v':=by simpa using PU
   simp [Instr.extract,this]
  ·cases hk
 ·rename_i c
  obtain⟨b,hb⟩:=hq c Ot;unfold mX at hk;obtain⟨args,hk,TQ⟩:=BM h hA hk;rw [hb]at hk;simp only at hk;have:=Or (ty:=o.type) (cs:=c.args.map fun | .const _=>true | _=>false) h hk TQ;have e:(⟨c.args.toList.map a.eval⟩:Array Value)=c.args.map a.eval:=by apply Array.toList_inj.1;simp
  rw [e]at this
  have e2:(do let d<-resolve a.eval c o.type;invoke d.target d.args:Sem Next)=builtin b c.argTypes o.type (c.args.map fun | .const _=>true | _=>false) (c.args.map a.eval):=by
   unfold resolve;rw [hb];rfl
  rw [e2];exact this
 ·cases hk
end ops
def UT (ro:Option Nat):Fence:={fn:=fun _=>True,depth:=none,alive:=false,round:=ro}
section walk
variable (P:Program) (w0:World)
def Good (U:Rn) (w:World) (K:VK) (v':Value) (w':World):Prop:=∃U' v S',K v S'=true/\VR U' v v'/\Rel P w0 U' S' w'/\xM U w U' w'
def aF5 (U:Rn) (w:World) (K:VK) (e:Ending) (w':World):Prop:=∃v',e= .returned v'/\Good P w0 U w K v' w'
def kT (call:aEs):Prop:=∀(f:FuncId) (args:List Value) (S:St) (K:VK) (U:Rn) (w:World) (eK:List Value),call f args S K=true->Rel P w0 U S w->lM U args eK->
 (∀w,(callFunc f ⟨eK⟩).run P w= .ok (.enter f ⟨eK⟩) w)/\CallsIn (UT none) 0 P f ⟨eK⟩ w (aF5 P w0 U w K)
def nV (round:Nat->List Value->St->VK->Bool):Prop:=∀(l:Nat) (args:List Value) (S:St) (K:VK) (U:Rn) (w:World) (eK:List Value) (L:Loc),round l args S K=true->Rel P w0 U S w->lM U args eK->U l=some L->
 ∃f tmps assign body,(Instr.yield L.b ⟨eK⟩).run P w= .ok (.round L.b f tmps assign body) w/\RoundIn (UT none) 0 P L.b f tmps assign body w (aF5 P w0 U w K)
def aNM (L:Loc):Deferred:={target:= .collected L.b,args:= #[]}
def Xs (U:Rn) (marks:List Nat) (ds:List Deferred):Prop:=ds.length=marks.length/\∀(k d:Nat),marks[k]? =some d->∃L,U d=some L/\ds[k]? =some (aNM L)
structure SR (U:Rn) (A:bC) (a:Act) (S:St) (w:World):Prop where
 act:BI P U A a
 rel:Rel P w0 U S w
 marks:Xs U A.marks a.defers
end walk
theorem Xs.mono{U U':Rn} (he:Ext U U'){m:List Nat}{d:List Deferred} (h:Xs U m d):Xs U' m d:=⟨h.1,fun k x hx=>let⟨L,a,b⟩:=h.2 k x hx;⟨L,he _ _ a,b⟩⟩
section walk
variable{E:Env}{w0:World}{U:Rn}{S:St}{w:World}{ro:Option Nat}
def Next (P:Program) (w0:World) (U:Rn) (w:World) (k:bC->St->Bool) (a':Act) (w':World):Prop:=∃U' A' S',k A' S'=true/\SR P w0 U' A' a' S' w'/\xM U w U' w'
theorem Next.trans{P:Program}{U1:Rn}{w1:World}{k:bC->St->Bool}{a':Act}{w':World} (s:xM U w U1 w1) (h:Next P w0 U1 w1 k a' w'):Next P w0 U w k a' w':=
 let⟨U',A',S',h1,h2,h3⟩:=h;⟨U',A',S',h1,h2,s.trans h3⟩
theorem WF{P:Program}{A:bC}{a:Act}{d:Option Tmp}{k:bC->St->Bool} (hs:SR P w0 U A a S w){v':Value}{w':World} (h:Good P w0 U w (fun v S=>mJ A d v fun A=>k A S) v' w'):Next P w0 U w k (a.put d v') w':=by
 obtain⟨U',v,S',hk,hv,hr,WG⟩:=h;obtain⟨A',hk,hA',hm⟩:=aA1 (hs.act.mono WG.ext) hv hk;refine⟨U',A',S',hk,⟨hA',hr,?_⟩,WG⟩;rw [hm];have:(a.put d v').defers=a.defers:=by cases d<;>rfl
 rw [this];exact hs.marks.mono WG.ext
def aHK:Value->Option Bool
 | .bool b=>some b
 | _=>none
theorem Ow{ops:Array Oper}{tmps:Array Value}{j:Nat}{o:Oper}{d:Tmp}{v:Value} (h1:ops[j]? =some o) (h2:o.dst=some d) (h3:tmps[d]? =some v):yielded ops tmps j=aHK v:=by
 unfold yielded;rw [h1];simp only [Hq,h2,h3];cases v<;>rfl
theorem SC{ops:Array Oper}{o:Oper}{A:bC}{a:Act} (hA:BI E.P U A a){k:Bool->Bool} (hk:DC ops o A k=true):k (Region.wanted o (yielded ops a.tmps))=true:=by
 unfold DC at hk;unfold Region.wanted;cases hg:o.guard with
 | none=>rw [hg]at hk;exact hk
 | some jw=>
  obtain⟨j,want⟩:=jw;rw [hg]at hk;simp only at hk ⊢;split at hk
  ·rename_i o' WH
   split at hk
   ·rename_i d hd
    obtain⟨v,hv,hk⟩:=HJ hk;obtain⟨v',PU,hr⟩:=hA.tmps.get hv;have hv2:a.tmps[d]? =some v':=by rw [<-PU];simp
    have hy:=Ow WH hd hv2;rw [hy];split at hk
    ·rename_i b
     have e:=hr.of_flat rfl;rw [e];cases b<;>cases want<;>exact hk
    ·rename_i hnb
     have hb:aHK v'=none:=by
      cases v' with
      | bool b=>cases hr with | flat _=>exact aX rfl (hnb b)
      | _=>rfl
     rw [hb];exact hk
   ·rename_i hd
    have hy:yielded ops a.tmps j=none:=by unfold yielded;rw [WH];simp [hd]
    rw [hy];exact hk
  ·rename_i WH
   have hy:yielded ops a.tmps j=none:=by unfold yielded;rw [WH];simp
   rw [hy];exact hk
theorem Ox (o:Oper) (P:Program) (w:World) (U:Operand->Value):∀f,o.about P w U=some f->(UT ro).fn f:=fun _ _=>trivial
theorem WI{P:Program}{n:Nat}{f:FuncId}{args:Array Value}{R:Ending->World->Prop} (h:CallsIn (UT none) n P f args w R):CallsIn (UT ro) n P f args w R:=h
theorem aA2{P:Program}{n l:Nat}{f:FuncId}{tmps:Array Value}{as bo:Code}{R:Ending->World->Prop} (h:RoundIn (UT none) n P l f tmps as bo w R):RoundIn (UT ro) n P l f tmps as bo w R:=h
theorem aCR{P:Program}{t:TypeId}{name:String}{g:FuncId} (h:KT P t name=some g) (x:Value) (args:Array Value) (w:World):(callMethod (.iface t x) name args).run P w=(callFunc g (#[x]++args)).run P w:=by
 unfold KT at h;split at h
 ·rename_i info d hi hd
  split at h
  ·rename_i m hm
   split at h
   ·rename_i g' pr hp hf
    have hp:m.path= #[]:=Array.toList_inj.1 (by simpa using hp);have aHJ:P.types.size+Made.depth=(P.types.size+99)+1:=rfl
    have aLc:(receiverAt t (.val x) pr (if m.path.isEmpty then some ((name.splitOn ".").getLastD name)else none)).run P w= .ok x w/\g'=g:=by
     unfold receiverAt;split at h
     ·injection h with h;subst h
      simp [run_underlying hd,Place.get]
     ·cases h
     ·rename_i xC
      injection h with h;subst h;refine⟨?_,rfl⟩;simp only [cP,run_underlying hd,eE];cases d<;>first | rfl | (exact aX rfl (xC _))
     ·cases h
    obtain⟨aLc,rfl⟩:=aLc
    have aP0:(method (P.types.size+Made.depth) t x name).run P w= .ok (g',x) w:=by
     rw [aHJ];unfold method;simp only [cP,Ab hi,eE,hm,hp];unfold follow;simp only [kJ,eE,hf];rw [hp]at aLc;simp only [cP,aLc,eE,kJ]
    simp only [callMethod,cP,run_program,eE,aP0]
   ·cases h
  ·cases h
 ·cases h
theorem aHL (hc:kT E.P w0 E.call) (hr:nV E.P w0 E.round) (h:Rel E.P w0 U S w){A:bC}{a:Act} (hA:BI E.P U A a){o:Oper}{K:VK} (hk:AD E o A S K=true){next:Act->World->Prop}{Q:Exit->Act->World->Prop}
 (hn:∀v' w',Good E.P w0 U w K v' w'->next (a.put o.dst v') w'):o.wpIn (UT ro) 0 E.P a w next Q:=by
 refine⟨Ox o _ _ _,?_⟩;by_cases hq:Quiet o
 ·obtain⟨r,U',v,S',v',w',h1,h2,h3,h4,h5,h6⟩:=aF4 h hA hq hk
  have xC:∀c,o.op≠ .defer c:=fun c e=>by unfold AD at hk;rw [e]at hk;cases hk
  rw [Oper.semAt_eq _ _ _ xC,h2];rcases h3 with rfl | ⟨rfl,rfl⟩
  ·exact hn v' w' ⟨U',v,S',h1,h4,h5,h6⟩
  ·exact hn undef w' ⟨U',v,S',h1,h4,h5,h6⟩
 ·have:∃c,o.op= .call c/\∀b,c.callee≠ .builtin b:=by
   unfold Quiet at hq;simp only [Classical.not_forall]at hq;obtain⟨c,hc,hb⟩:=hq;exact⟨c,hc,fun b e=>hb ⟨b,e⟩⟩
  obtain⟨c,Ot,hnb⟩:=this;rw [Oper.semAt_eq _ _ _ (fun d e=>by rw [Ot]at e;cases e)];unfold AD at hk;unfold execOp;rw [Ot]at hk ⊢;simp only at hk ⊢;unfold mX at hk;obtain⟨args,hk,TQ⟩:=BM h hA hk;split at hk
  ·rename_i b hb;exact aX hb (hnb b)
  ·rename_i f hf
   obtain⟨fv,hk,hfv⟩:=aV h hA hk;split at hk
   ·rename_i g first captured
    rw [nA,nA]at hk;generalize hfe:a.eval f=fv' at hfv;cases hfv with
    | flat RQ=>simp [bW]at RQ
    | func h1 h2 h3 h4=>
     rename_i BN mR;have hf1:lM U first.toList BN.toList:=⟨by simpa using h1,h3⟩
     have hf2:lM U captured.toList mR.toList:=⟨by simpa using h2,h4⟩;obtain⟨he,TR⟩:=hc g _ S K U w _ hk h ((hf1.append TQ).append hf2);have e1:(⟨BN.toList++c.args.toList.map a.eval++mR.toList⟩:Array Value)=(BN++c.args.map a.eval)++mR:=by apply Array.toList_inj.1;simp
     rw [e1]at he TR
     have fN:(do let d<-resolve a.eval c o.type;invoke d.target d.args:Sem Go.Next).run E.P w= .ok (.enter g ((BN++c.args.map a.eval)++mR)) w:=by
      simp only [cP,resolve,hf,hfe,Deferred.ofValue,kJ,eE,invoke];exact he w
     rw [fN];refine⟨(fun hd=>nomatch hd),CallsIn.mono (WI TR) ?_⟩
     rintro e w' ⟨v',rfl,hg⟩
     exact hn v' w' hg
   ·rename_i l first captured
    split at hk
    ·rename_i hl1 DK
     have hl1:first= #[]:=Array.toList_inj.1 (by simpa using hl1)
     have DK:captured= #[]:=Array.toList_inj.1 (by simpa using DK);subst hl1 DK;generalize hfe:a.eval f=fv' at hfv;cases hfv with
     | flat RQ=>simp [bW]at RQ
     | yield hL=>
      rename_i L;obtain⟨fn,tmps,as,bo,hy,aNN⟩:=hr l args S K U w _ L hk h TQ hL;have e1:(⟨c.args.toList.map a.eval⟩:Array Value)= #[]++c.args.map a.eval:=by apply Array.toList_inj.1;simp
      rw [e1]at hy
      have fN:(do let d<-resolve a.eval c o.type;invoke d.target d.args:Sem Go.Next).run E.P w= .ok (.round L.b fn tmps as bo) w:=by
       simp only [cP,resolve,hf,hfe,Deferred.ofValue,kJ,eE,invoke];exact hy
      rw [fN];refine⟨(fun hd=>nomatch hd),RoundIn.mono (aA2 aNN) ?_⟩
      rintro e w' ⟨v',rfl,hg⟩
      exact hn v' w' hg
    ·cases hk
   ·cases hk
  ·rename_i r m hf
   obtain⟨fv,hk,hfv⟩:=aV h hA hk;split at hk
   ·rename_i t x
    split at hk
    ·rename_i g hg
     generalize hfe:a.eval r=fv' at hfv;cases hfv with
     | flat RQ=>simp [bW]at RQ
     | @iface _ _ x' hx=>
      obtain⟨he,TR⟩:=hc g _ S K U w _ hk h (lM.cons hx TQ);have e1:(⟨x'::c.args.toList.map a.eval⟩:Array Value)= #[x']++c.args.map a.eval:=by apply Array.toList_inj.1;simp
      rw [e1]at he TR
      have fN:(do let d<-resolve a.eval c o.type;invoke d.target d.args:Sem Go.Next).run E.P w= .ok (.enter g (#[x']++c.args.map a.eval)) w:=by
       simp only [cP,resolve,hf,hfe,kJ,eE,invoke];have e2:(#[Value.iface t x']++c.args.map a.eval)[0]? =some (Value.iface t x'):=by rw [Array.getElem?_append_left (by simp)];rfl
       have e3:(#[Value.iface t x']++c.args.map a.eval).extract 1 (#[Value.iface t x']++c.args.map a.eval).size=c.args.map a.eval:=by
        apply Array.toList_inj.1;simp [Array.toList_extract,List.extract];exact lQ (by simp)
       simp only [e2,e3];exact(aCR hg x' _ w).trans (he w)
      rw [fN];refine⟨(fun hd=>nomatch hd),CallsIn.mono (WI TR) ?_⟩
      rintro e w' ⟨v',rfl,hg⟩
      exact hn v' w' hg
    ·cases hk
   ·cases hk
theorem aLd (hc:kT E.P w0 E.call) (hr:nV E.P w0 E.round){ops:Array Oper}{k:bC->St->Bool}{Q:Exit->Act->World->Prop}:∀(l:List Oper) {U:Rn} {A:bC} {a:Act} {S:St} {w:World},ZH E ops l A S k=true->SR E.P w0 U A a S w->
 (∀a' w',Next E.P w0 U w k a' w'->Q .normal a' w')->wpListIn (UT ro) 0 E.P ops Q l a w:=by
 intro l;induction l with
 | nil=>intro U A a S w hk hs hQ;exact hQ a w ⟨U,A,S,hk,hs,.refl U w⟩
 | cons o l ih=>
  intro U A a S w hk hs hQ;have hk:Ca E ops o A S (ZH E ops l · · k)=true:=hk;unfold Ca at hk;have hk:=SC hs.act hk;unfold wpListIn
  have go:∀a' w',Next E.P w0 U w (ZH E ops l · · k) a' w'->wpListIn (UT ro) 0 E.P ops Q l a' w':=by
   rintro a' w' ⟨U',A',S',h1,h2,h3⟩
   exact ih h1 h2 fun a2 w2 h=>hQ a2 w2 (h.trans h3)
  cases hw:Region.wanted o (yielded ops a.tmps)with
  | true=>
   rw [hw]at hk;simp only [if_true];have hk:AD E o A S (fun v S=>mJ A o.dst v fun A=>ZH E ops l A S k)=true:=hk;exact aHL hc hr hs.rel hs.act hk fun v' w' hg=>go _ _ (WF hs hg)
  | false=>
   rw [hw]at hk;simp only [Ho,if_false];have hk:mJ A o.dst undef (fun A=>ZH E ops l A S k)=true:=hk;exact⟨Ox o _ _ _,go _ _ (WF (k:=fun A S=>ZH E ops l A S k) hs ⟨U,undef,S,hk,.undef,hs.rel,.refl U w⟩)⟩
end walk
section scope
variable{F:Fence}{n:Nat}{P:Program}{Q:Exit->Act->World->Prop}{a:Act}{w:World}{b:Frame}{k:List Item}{cs:List Frame}
theorem CB{c:Code}:step P (lone (b.atR a (.code (.scope c)::k)) cs w)= .next (lone (b.atR a (.code c:: .inScope c::k)) cs w):=step_lone_go (by simp [stepG,stepG.exec,Frame.atR])
theorem Tn{c:Code}:step P (lone (b.atR a (.inScope c::k)) cs w)= .next (lone (b.atR a k) cs w):=step_lone_go (by simp [stepG,stepG.exec,Frame.atR])
theorem Oy{c:Code} (h:c.wpIn F n P (Exit.noGoto Q) a w):(Code.scope c).wpIn F n P Q a w:=by
 intro b k cs uD hb hr;have h0:(lone (b.atR a (.code (.scope c)::k)) cs w).fenced P F:=fenced_calm hb hr rfl;obtain⟨e,a₁,w₁,hq,aF6⟩:=h b (.inScope c::k) cs uD hb hr;cases e with
 | normal=>exact⟨.normal,a₁,w₁,hq,.head h0 CB (StepsIn.trans aF6 (.one (fenced_calm hb hr rfl) Tn))⟩
 | exit id=>
  have hx:exitTo id (.inScope c::k)=exitTo id k:=by simp [exitTo]
  exact⟨.exit id,a₁,w₁,hq,fun k' hk=> .head h0 CB (aF6.1 k' (by rw [hx];exact hk)),
   fun hr' hk=>let⟨k₁,h1,h2⟩:=aF6.2 hr' (by rw [hx];exact hk);⟨k₁,h1,.head h0 CB h2⟩⟩
 | goto l=>exact hq.elim
 | ret=>exact⟨.ret,a₁,w₁,hq,.of_steps (.one h0 CB) aF6⟩
 | panic ch=>exact⟨.panic ch,a₁,w₁,hq,.of_steps (.one h0 CB) aF6⟩
 | outgrown=>exact⟨.outgrown,a₁,w₁,hq,.of_steps (.one h0 CB) aF6⟩
end scope
def exR:yS->Exit
 | .normal=> .normal
 | .exit id=> .exit id
 | .ret=> .ret
section walk
variable{E:Env}{w0:World}
def Arr (P:Program) (w0:World) (U:Rn) (w:World) (K:Cb) (e:Exit) (a':Act) (w':World):Prop:=∃U' ae A' S',e=exR ae/\K ae A' S'=true/\SR P w0 U' A' a' S' w'/\xM U w U' w'
theorem Arr.trans{P:Program}{U U1:Rn}{w w1:World}{K:Cb}{e:Exit}{a':Act}{w':World} (s:xM U w U1 w1) (h:Arr P w0 U1 w1 K e a' w'):Arr P w0 U w K e a' w':=
 let⟨U',ae,A',S',h0,h1,h2,h3⟩:=h;⟨U',ae,A',S',h0,h1,h2,s.trans h3⟩
def RoR (U:Rn) (r ro:Option Nat):Prop:=(r=none/\ro=none)\/∃l L,r=some l/\U l=some L/\ro=some L.b
theorem RoR.mono{U U':Rn} (he:Ext U U'){r ro:Option Nat} (h:RoR U r ro):RoR U' r ro:=by
 rcases h with h | ⟨l,L,h1,h2,h3⟩
 ·exact .inl h
 ·exact .inr ⟨l,L,h1,he _ _ h2,h3⟩
abbrev DrT:=Array Oper->bC->St->(bC->St->Bool)->Bool
def aF7 (E:Env) (w0:World) (dr:DrT):Prop:=∀(ops:Array Oper) (A:bC) (S:St) (k:bC->St->Bool) (U:Rn) (a:Act) (w:World) (ro:Option Nat) (id:Nat) (Q:Exit->Act->World->Prop),dr ops A S k=true->SR E.P w0 U A a S w->
 (∀a' w',Next E.P w0 U w k a' w'->Q .normal a' w')->(Code.region id ops true).wpIn (UT ro) 0 E.P Q a w
theorem exists_least{p:Nat->Prop} (h:∃m,p m):∃m,p m/\∀j,p j->m<=j:=by
 obtain⟨m,hm⟩:=h;induction m using Nat.strongRecOn with
 | _ m ih=>
  by_cases hl:∃j,j<m/\p j
  ·obtain⟨j,hj,hp⟩:=hl;exact ih j hj hp
  ·exact⟨m,hm,fun j hj=>Nat.le_of_not_lt fun hlt=>hl ⟨j,hlt,hj⟩⟩
def least (p:Nat->Prop):Nat:=open Classical in if h:∃m,p m then(exists_least h).choose else 0
theorem SD{p:Nat->Prop}{m:Nat} (h:p m):p (least p)/\least p<=m:=by
 have hx:∃m,p m:=⟨m,h⟩;unfold least;rw [dif_pos hx];exact⟨(exists_least hx).choose_spec.1,(exists_least hx).choose_spec.2 m h⟩
def aHM (body:bC->St->Cb->Bool) (K:Cb) (m:Nat):bC->St->Bool:=
 MZ (β:=bC->St->Bool) (fun _ _=>false) (fun _ ih A S=>body A S fun e A S=>match e with | .normal=>ih A S | e=>K e A S) m
theorem xP{U:Rn}{S:St}{w:World}{P:Program} (h:Rel P w0 U S w){l:Nat}{tm:Tm}{ps:List Tmp}{as bo:Code}{st:LoopState}{pe:Option Code} (ho:S.obj l=some (.loop tm ps as bo st pe)){L:Loc} (hL:U l=some L):
 ∃r,w0.heap.size<=L.b/\w.heap[L.b]? =some (.loop r)/\r.state=st/\r.pending=pe/\r.params.toList=ps/\r.assign=as/\r.body=bo/\TRs U tm r.tmps.toList:=by
 obtain⟨M,r,h1,h2⟩:=h.OY l _ ho;rw [hL]at h1;injection h1 with h1;subst h1;exact⟨r,h2⟩
theorem WJ{U:Rn}{S:St}{w:World}{P:Program} (h:Rel P w0 U S w){l:Nat}{tm:Tm}{ps:List Tmp}{as bo:Code}{st:LoopState}{pe:Option Code} (ho:S.obj l=some (.loop tm ps as bo st pe)){L:Loc} (hL:U l=some L)
 {r:Loop} (hb:w0.heap.size<=L.b) (hr:w.heap[L.b]? =some (.loop r)) (VV:r.params.toList=ps) (has:r.assign=as) (hbo:r.body=bo) (htm:TRs U tm r.tmps.toList) (Mr:LoopState) (pe':Option Code):
 Rel P w0 U (S.set l (.loop tm ps as bo Mr pe')) (w.putObj L.b (.loop {r with state:=Mr,pending:=pe'}))/\xM U w U (w.putObj L.b (.loop {r with state:=Mr,pending:=pe'}))/\
  (setObj L.b (.loop {r with state:=Mr,pending:=pe'})).run P w= .ok () (w.putObj L.b (.loop {r with state:=Mr,pending:=pe'})):=by
 obtain⟨r1,r2⟩:=h.aK8 (o':= .loop tm ps as bo Mr pe') ho rfl rfl rfl hL hb rfl (.loop {r with state:=Mr,pending:=pe'}) (fun hh=>⟨L,_,hL,hb,hh,rfl,rfl,VV,has,hbo,htm⟩);exact⟨r1,r2,by simp [setObj,Sem.run,hr];rfl⟩
theorem run_getLoop{P:Program}{w:World}{b:Nat}{r:Loop} (h:w.heap[b]? =some (.loop r)):(Instr.getLoop b).run P w= .ok r w:=by
 simp [Instr.getLoop,getObj,Sem.run,h]
theorem oV{S:St}{l:Nat}{k:iW->Bool} (h:rE S.h l k=true):∃o,S.obj l=some o/\k o=true:=by
 rw [mZ]at h;cases ho:S.h.get l with
 | none=>rw [ho]at h;cases h
 | some o=>rw [ho]at h;exact⟨o,ho,h⟩
end walk
section walk
variable{E:Env}{w0:World}
theorem aA3 (P:Program) (o:Obj) (w:World):(newObj o).run P w= .ok w.heap.size (w.alloc o):=rfl
theorem Oz (hc:kT E.P w0 E.call){params:Array Tmp}{assign body:Code}{U:Rn}{A:bC}{a:Act}{S:St}{w:World}{K:Cb}{ro:Option Nat}{Q:Exit->Act->World->Prop}{g:FuncId}{first captured:List Value}{BN mR:Array Value}
 (h:Rel E.P w0 U S w) (hA:BI E.P U A a) (hD:Xs U A.marks a.defers) {R:Loop} (h1:R.state= .ready) (h2:R.pending=none) (h3:R.tmps=a.tmps) (h4:R.params=params) (h5:R.assign=assign) (h6:R.body=body)
 (hf:lM U first BN.toList) (aCN:lM U captured mR.toList)
 (hk:(zB S (.loop A.tmps params.toList assign body .ready none) fun l S=>
  FL first [.func (.yield l) #[] #[]] fun as=>FL as captured fun as=>E.call g as S fun _ S=>
   rE S.h l fun o=>match o with
    | .loop tm ps as bo st pe=>match st with
     | .busy=>false
     | _=>sR S l (.loop tm ps as bo .exhausted pe) fun S=>match pe with
      | none=>K .normal A S
      | some .ret=>K .ret A S
      | some (.exit id)=>K (.exit id) A S
      | _=>false
    | _=>false)=true)
 (hQ:∀e a' w',Arr E.P w0 U w K e a' w'->Q e a' w'):
 (∀w',(callFunc g ((BN++ #[.func (.yield w.heap.size) #[] #[]])++mR)).run E.P w'= .ok (.enter g ((BN++ #[.func (.yield w.heap.size) #[] #[]])++mR)) w')/\
  CallsIn (UT ro) 0 E.P g ((BN++ #[.func (.yield w.heap.size) #[] #[]])++mR) (w.alloc (.loop R)) (rangePost (UT ro) 0 E.P w.heap.size Q a):=by
 rw [jB]at hk
 obtain⟨r1,s1⟩:=h.new (.loop A.tmps params.toList assign body .ready none) (.loop R) ⟨w.heap.size,0,0,0⟩ rfl
  (fun U' he hUz=>⟨_,R,hUz,h.base.size,by show(w.heap.push _)[w.heap.size]? =_;simp,h1,h2,by rw [h4],h5,h6,by rw [h3];exact hA.tmps.mono he⟩) (by simp [iW.olds])
 have hL:=Rn.mK U S.n ⟨w.heap.size,0,0,0⟩;simp only [nA]at hk
 have TQ:lM (U.put S.n ⟨w.heap.size,0,0,0⟩) (first++[.func (.yield S.n) #[] #[]]++captured) (BN.toList++[.func (.yield w.heap.size) #[] #[]]++mR.toList):=
  ((hf.mono s1.ext).append (.cons (.yield hL) (.nil _))).append (aCN.mono s1.ext)
 obtain⟨he,TR⟩:=hc g _ _ _ _ _ _ hk r1 TQ;have e1:(⟨BN.toList++[.func (.yield w.heap.size) #[] #[]]++mR.toList⟩:Array Value)=(BN++ #[.func (.yield w.heap.size) #[] #[]])++mR:=by apply Array.toList_inj.1;simp
 rw [e1]at he TR;refine⟨he,CallsIn.mono (WI TR) ?_⟩
 rintro e w' ⟨v',rfl,U',v,S',hk,hv,r2,s2⟩
 obtain⟨o,ho,hk⟩:=oV hk;have hL2:U' S.n=some ⟨w.heap.size,0,0,0⟩:=s2.ext _ _ hL;split at hk
 ·rename_i tm ps as bo st pe
  obtain⟨r,hb,hr,hst,hpe,VV,has,hbo,htm⟩:=xP r2 ho hL2
  have hkk:st≠ .busy/\sR S' S.n (.loop tm ps as bo .exhausted pe) (fun S=>match(generalizing:=false) pe with
   | none=>K .normal A S
   | some .ret=>K .ret A S
   | some (.exit id)=>K (.exit id) A S
   | _=>false)=true:=by
   split at hk
   ·cases hk
   ·rename_i hnb;exact⟨fun e=>hnb e,hk⟩
  obtain⟨hnb,hk⟩:=hkk;rw [gS]at hk;obtain⟨r3,s3,aK9⟩:=WJ r2 ho hL2 hb hr VV has hbo htm .exhausted pe
  have Ti:(Instr.endLoop w.heap.size).run E.P w'= .ok pe (w'.putObj w.heap.size (.loop {r with state:= .exhausted,pending:=pe})):=by
   have aRO:r.state≠ .busy:=by rw [hst];exact hnb
   simp [Instr.endLoop,run_getLoop hr,aRO,hpe,aK9]
  have aNO:=(s1.trans s2).trans s3
  have hsr:SR E.P w0 U' A a (S'.set S.n (.loop tm ps as bo .exhausted pe)) (w'.putObj w.heap.size (.loop {r with state:= .exhausted,pending:=pe})):=
   ⟨hA.mono (s1.ext.trans s2.ext),r3,hD.mono (s1.ext.trans s2.ext)⟩
  refine⟨pe,_,Ti,?_⟩;split at hk
  ·exact hQ _ _ _ ⟨U',.normal,A,_,rfl,hk,hsr,aNO⟩
  ·exact wpIn_ret (hQ _ _ _ ⟨U',.ret,A,_,rfl,hk,hsr,aNO⟩)
  ·exact wpIn_exit (hQ _ _ _ ⟨U',.exit _,A,_,rfl,hk,hsr,aNO⟩)
  ·cases hk
 ·cases hk
theorem Vf (hc:kT E.P w0 E.call){f:Operand}{params:Array Tmp}{assign body:Code}{U:Rn}{A:bC}{a:Act}{S:St}{w:World}{K:Cb}{r ro:Option Nat}{Q:Exit->Act->World->Prop}
 (hk:Cc E r f params assign body A S K=true) (hs:SR E.P w0 U A a S w) (uD:RoR U r ro) (hQ:∀e a' w',Arr E.P w0 U w K e a' w'->Q e a' w'):(Code.rangeFunc f params assign body).wpIn (UT ro) 0 E.P Q a w:=by
 unfold Cc at hk;obtain⟨fv,hk,hfv⟩:=aV hs.rel hs.act hk;split at hk
 ·rename_i g first captured
  refine wpIn_rangeFunc fun fn _=>?_;generalize hfe:a.eval f=fv' at hfv;cases hfv with
  | flat RQ=>simp [bW]at RQ
  | func h1 h2 h3 h4=>
   rename_i BN mR;have hf1:lM U first.toList BN.toList:=⟨by simpa using h1,h3⟩
   have hf2:lM U captured.toList mR.toList:=⟨by simpa using h2,h4⟩
   have aP1:∀(l:Nat) (w:World),(resolve a.eval (rangeCall f l) 0).run E.P w= .ok {target:= .fn (.func g) mR,args:=BN++ #[.func (.yield l) #[] #[]]} w:=by
    intro l w;simp [resolve,hfe,Deferred.ofValue];rfl
   rcases uD with ⟨rfl,rfl⟩ | ⟨l,L,rfl,hL,rfl⟩
   ·simp only [jB]at hk
    obtain⟨r1,s1⟩:=hs.rel.new .defers (.deferred (some [])) ⟨w.heap.size,0,0,0⟩ rfl
     (fun U' he hUz=>⟨_,hUz,hs.rel.base.size,by show(w.heap.push _)[w.heap.size]? =_;simp⟩) (by simp [iW.olds])
    have hLd:=Rn.mK U S.n ⟨w.heap.size,0,0,0⟩
    have hD:Xs (U.put S.n ⟨w.heap.size,0,0,0⟩) (S.n::A.marks) ({target:= .collected w.heap.size,args:= #[]}::a.defers):=by
     refine⟨by simp [hs.marks.1],fun k d hk=>?_⟩;cases k with
     | zero=>simp at hk;subst hk;exact⟨_,hLd,rfl⟩
     | succ k=>simp at hk;obtain⟨L,g1,g2⟩:=hs.marks.2 k d hk;exact⟨L,s1.ext _ _ g1,by simpa using g2⟩
    have aA4:=Oz (Q:=Q) (a:={a with defers:={target:= .collected w.heap.size,args:= #[]}::a.defers}) (A:=⟨A.tmps,S.n::A.marks,A.g⟩) (ro:=none) hc r1 ⟨hs.act.tmps.mono s1.ext,hs.act.g⟩ hD
     (R:={state:= .ready,pending:=none,fn,tmps:=a.tmps,params,assign,body,defers:=w.heap.size}) rfl rfl rfl rfl rfl rfl (hf1.mono s1.ext) (hf2.mono s1.ext) (K:=K) (g:=g) (by rw [jB];exact hk)
     (fun e a' w' h=>hQ e a' w' (h.trans s1))
    refine⟨(w.alloc (.deferred (some []))).heap.size,[{target:= .collected w.heap.size,args:= #[]}],(w.alloc (.deferred (some []))).alloc (.loop {state:= .ready,pending:=none,fn,tmps:=a.tmps,params,assign,body,defers:=w.heap.size}),_,
     (w.alloc (.deferred (some []))).alloc (.loop {state:= .ready,pending:=none,fn,tmps:=a.tmps,params,assign,body,defers:=w.heap.size}),g,_,_,?_,aP1 _ _,fun _ _=>trivial,aA4.1 _,(fun hd=>nomatch hd),aA4.2⟩
    simp only [Instr.enterLoop];rfl
   ·obtain⟨o,ho,hk⟩:=oV hk
    split at hk
    ·rename_i tm ps as bo st pe
     obtain⟨r,hb,hr,_⟩:=xP hs.rel ho hL
     have aA4:=Oz (Q:=Q) (a:=a) (A:=A) (ro:=some L.b) hc hs.rel hs.act hs.marks
      (R:={state:= .ready,pending:=none,fn,tmps:=a.tmps,params,assign,body,defers:=r.defers}) rfl rfl rfl rfl rfl rfl hf1 hf2 (K:=K) (g:=g) hk hQ
     refine⟨w.heap.size,[],w.alloc (.loop {state:= .ready,pending:=none,fn,tmps:=a.tmps,params,assign,body,defers:=r.defers}),_,w.alloc (.loop {state:= .ready,pending:=none,fn,tmps:=a.tmps,params,assign,body,defers:=r.defers}),g,_,_,?_,aP1 _ _,
      fun _ _=>trivial,aA4.1 _,(fun hd=>nomatch hd),aA4.2⟩
     simp only [Instr.enterLoop,UT,cP,run_getLoop hr,aA3,eE,kJ]
    ·cases hk
 ·cases hk
end walk
section walk
variable{E:Env}{w0:World}
theorem Ec (hc:kT E.P w0 E.call) (hr:nV E.P w0 E.round){dr:DrT} (hd:aF7 E w0 dr):∀(c:Code) {U:Rn} {A:bC} {a:Act} {S:St} {w:World} {K:Cb} {r ro:Option Nat} {Q:Exit->Act->World->Prop},
 xL E dr r c A S K=true->SR E.P w0 U A a S w->RoR U r ro->(∀e a' w',Arr E.P w0 U w K e a' w'->Q e a' w')->c.wpIn (UT ro) 0 E.P Q a w:=by
 intro c;induction c with
 | skip=>intro U A a S w K r ro Q hk hs uD hQ;exact wpIn_skip (hQ _ _ _ ⟨U,.normal,A,S,rfl,hk,hs,.refl U w⟩)
 | label l=>intro U A a S w K r ro Q hk hs uD hQ;exact wpIn_label (hQ _ _ _ ⟨U,.normal,A,S,rfl,hk,hs,.refl U w⟩)
 | ret=>intro U A a S w K r ro Q hk hs uD hQ;exact wpIn_ret (hQ _ _ _ ⟨U,.ret,A,S,rfl,hk,hs,.refl U w⟩)
 | exit id=>intro U A a S w K r ro Q hk hs uD hQ;exact wpIn_exit (hQ _ _ _ ⟨U,.exit id,A,S,rfl,hk,hs,.refl U w⟩)
 | goto l=>intro U A a S w K r ro Q hk hs uD hQ;cases hk
 | refuse l=>intro U A a S w K r ro Q hk hs uD hQ;cases hk
 | region id ops draw=>
  intro U A a S w K r ro Q hk hs uD hQ
  have Sr:∀a' w',Next E.P w0 U w (fun A S=>K .normal A S) a' w'->Q .normal a' w':=by
   rintro a' w' ⟨U',A',S',h1,h2,h3⟩
   exact hQ _ _ _ ⟨U',.normal,A',S',rfl,h1,h2,h3⟩
  cases draw with
  | true=>exact hd ops A S _ U a w ro id Q hk hs Sr
  | false=>exact wpIn_region_list (aLd hc hr ops.toList hk hs Sr)
 | seq x y ihx ihy=>
  intro U A a S w K r ro Q hk hs uD hQ;have hk:xL E dr r x A S (fun e A S=>match e with | .normal=>xL E dr r y A S K | e=>K e A S)=true:=hk;refine wpIn_seq (ihx hk hs uD ?_)
  rintro e a' w' ⟨U',ae,A',S',rfl,h1,h2,h3⟩
  cases ae with
  | normal=>exact ihy h1 h2 (uD.mono h3.ext) fun e a w h=>hQ e a w (h.trans h3)
  | exit id=>exact hQ _ _ _ ⟨U',.exit id,A',S',rfl,h1,h2,h3⟩
  | ret=>exact hQ _ _ _ ⟨U',.ret,A',S',rfl,h1,h2,h3⟩
 | cond c x y ihx ihy=>
  intro U A a S w K r ro Q hk hs uD hQ;have hk:vM A c (fun v=>match v with | .bool b=>fX b (xL E dr r x A S K) (xL E dr r y A S K) | _=>false)=true:=hk;obtain⟨v,hk,hv⟩:=aV hs.rel hs.act hk;split at hk
  ·rename_i b
   have e:=hv.of_flat rfl;cases b with
   | true=>exact wpIn_cond_true e (ihx hk hs uD hQ)
   | false=>exact wpIn_cond_false e (ihy hk hs uD hQ)
  ·cases hk
 | block id x ih=>
  intro U A a S w K r ro Q hk hs uD hQ
  have hk:xL E dr r x A S (fun e A S=>match e with
   | .exit i=>match Nat.beq i id with | true=>K .normal A S | false=>K (.exit i) A S
   | e=>K e A S)=true:=hk
  refine wpIn_block (ih hk hs uD ?_)
  rintro e a' w' ⟨U',ae,A',S',rfl,h1,h2,h3⟩
  cases ae with
  | normal=>exact hQ _ _ _ ⟨U',.normal,A',S',rfl,h1,h2,h3⟩
  | ret=>exact hQ _ _ _ ⟨U',.ret,A',S',rfl,h1,h2,h3⟩
  | exit i=>
   simp only at h1;show Exit.inBlock id Q (.exit i) a' w';split at h1
   ·rename_i hi
    have hi:=dE hi;subst hi;simp only [Exit.inBlock,if_true];exact hQ _ _ _ ⟨U',.normal,A',S',rfl,h1,h2,h3⟩
   ·rename_i hi
    have hi:=VH hi;simp only [Exit.inBlock,hi,if_false];exact hQ _ _ _ ⟨U',.exit i,A',S',rfl,h1,h2,h3⟩
 | scope x ih=>
  intro U A a S w K r ro Q hk hs uD hQ;have hk:xL E dr r x A S K=true:=hk;refine Oy (ih hk hs uD ?_)
  rintro e a' w' ⟨U',ae,A',S',rfl,h1,h2,h3⟩
  cases ae with
  | normal=>exact hQ _ _ _ ⟨U',.normal,A',S',rfl,h1,h2,h3⟩
  | exit id=>exact hQ _ _ _ ⟨U',.exit id,A',S',rfl,h1,h2,h3⟩
  | ret=>exact hQ _ _ _ ⟨U',.ret,A',S',rfl,h1,h2,h3⟩
 | rangeFunc f ps as bo _ _=>
  intro U A a S w K r ro Q hk hs uD hQ;exact Vf hc hk hs uD hQ
 | loop x ih=>
  intro U A a S w K r ro Q hk hs uD hQ;have hk:aHM (xL E dr r x) K E.most A S=true:=hk
  let I:Nat->Act->World->Prop:=fun m a' w'=>Next E.P w0 U w (aHM (xL E dr r x) K m) a' w'
  refine wpIn_loop (I:=fun a w=>∃m,I m a w) (μ:=fun a w=>least fun m=>I m a w) ⟨E.most,U,A,S,hk,hs,.refl U w⟩ ?_
  rintro a1 w1 ⟨m0,hm0⟩
  obtain⟨hm,_⟩:=SD (p:=fun m=>I m a1 w1) hm0;generalize aRP:least (fun m=>I m a1 w1)=m at hm;obtain⟨U1,A1,S1,h1,h2,h3⟩:=hm;cases m with
  | zero=>cases h1
  | succ m=>
   have h1:xL E dr r x A1 S1 (fun e A S=>match e with | .normal=>aHM (xL E dr r x) K m A S | e=>K e A S)=true:=h1;refine ih h1 h2 (uD.mono h3.ext) ?_
   rintro e a' w' ⟨U',ae,A',S',rfl,g1,g2,g3⟩
   cases ae with
   | normal=>
    have hI:I m a' w':=⟨U',A',S',g1,g2,h3.trans g3⟩;refine⟨⟨m,hI⟩,?_⟩;have:=(SD (p:=fun m=>I m a' w') hI).2;exact Nat.lt_succ_of_le this
   | exit id=>exact hQ _ _ _ ⟨U',.exit id,A',S',rfl,g1,g2,h3.trans g3⟩
   | ret=>exact hQ _ _ _ ⟨U',.ret,A',S',rfl,g1,g2,h3.trans g3⟩
end walk
section walk
variable{E:Env}{w0:World}
theorem WK{P:Program}{U:Rn}{S:St}{w:World} (h:Rel P w0 U S w){A:bC}{a:Act} (hA:BI P U A a):∀{rs:List ResultVar} {k:List Value->Bool},sZ P rs A S k=true->
 ∃vs vs',k vs=true/\lM U vs vs'/\(rs.mapM (fun | .tmp t=>pure (a.tmps.getD t undef) | .cell x t=>do loadVar t (<-asAddr (a.tmps.getD x undef)):ResultVar->Sem Value)).run P w= .ok vs' w:=by
 intro rs;induction rs with
 | nil=>intro k hk;exact⟨[],[],hk,.nil U,rfl⟩
 | cons x rs ih=>
  intro k hk
  have Dz:∀(t:Tmp) (v v':Value),a.tmps.toList[t]? =some v'->a.tmps.getD t undef=v':=fun t v v' h=>by
   have:a.tmps[t]? =some v':=by simpa using h
   simp [Wu,this]
  cases x with
  | tmp t=>
   have hk:YJ A.tmps t (fun v=>sZ P rs A S fun vs=>k (v::vs))=true:=hk;obtain⟨v,hv,hk⟩:=HJ hk;obtain⟨v',PU,hr⟩:=hA.tmps.get hv;obtain⟨vs,vs',g1,g2,g3⟩:=ih hk;exact⟨_,v'::vs',g1,.cons hr g2,by simp only [Hr,cP,Dz t v v' PU,kJ,eE,g3]⟩
  | cell x t=>
   have hk:YJ A.tmps x (fun a=>PO P t a S fun v _=>sZ P rs A S fun vs=>k (v::vs))=true:=hk;obtain⟨u,hu,hk⟩:=HJ hk;obtain⟨u',hu',hr⟩:=hA.tmps.get hu;obtain⟨v,v',hk,hv,fN⟩:=WE h hk hr;obtain⟨vs,vs',g1,g2,g3⟩:=ih hk;refine⟨_,v'::vs',g1,.cons hv g2,?_⟩
   have RD:(do loadVar t (<-asAddr u'):Sem Value).run P w= .ok v' w:=by
    rw [<-fN];cases u' with
    | pointer ad=>
     cases ad with
     | none=>simp [Instr.loadAt,Instr.sureAddr]at fN
     | some ad=>rfl
    | _=>simp [Instr.loadAt,Instr.sureAddr]at fN
   simp only [Hr,cP,Dz x u u' hu',kJ];rw [cP]at RD;rw [RD,eE,g3];rfl
theorem Ed{P:Program}{fn:Func}{tmps:Array Value}{R:Ending->World->Prop}:∀{marks:List Nat} {ds:List Deferred} {U:Rn} {S:St} {w:World} {k:St->Bool},OX marks S k=true->Rel P w0 U S w->Xs U marks ds->
 (∀S' w',k S'=true->Rel P w0 U S' w'->xM U w U w'->LeavesInM (UT none) 0 P fn tmps R [] .returning w')->LeavesInM (UT none) 0 P fn tmps R ds .returning w:=by
 intro marks;induction marks with
 | nil=>
  intro ds U S w k hk h hD hR;have:ds=[]:=rY (by simpa using hD.1);subst this;exact hR S w hk h (.refl U w)
 | cons d marks ih=>
  intro ds U S w k hk h hD hR;cases ds with
  | nil=>have:=hD.1;simp at this
  | cons e ds=>
   have hk:rE S.h d (fun o=>match o with | .defers=>sR S d .dead (OX marks · k) | _=>false)=true:=hk;obtain⟨L,hL,he⟩:=hD.2 0 d rfl;simp only [Wv,Option.some.injEq]at he;subst he;obtain⟨o,ho,hk⟩:=oV hk;split at hk
   ·rw [gS]at hk
    obtain⟨M,g1,g2,g3⟩:=h.OY d _ ho;rw [hL]at g1;injection g1 with g1;subst g1;obtain⟨r1,r2⟩:=h.aK8 (o':= .dead) ho rfl rfl rfl hL g2 rfl (.deferred none) (fun _=>trivial);refine⟨by simp,.inl ⟨L.b,w.putObj L.b (.deferred none),rfl,?_,?_⟩⟩
    ·simp [Instr.takeDeferred,getObj,setObj,Sem.run,g3];rfl
    ·refine ih hk r1 ⟨by have:=hD.1;simpa using this,fun k x hx=>hD.2 (k+1) x (by simpa using hx)⟩ fun S' w' h1 h2 h3=>hR S' w' h1 h2 (r2.trans h3)
   ·cases hk
theorem aHN{U:Rn}{k:Tm->Bool}{n:Nat}:∀{args eK _pre pre':List Value} {T:Tm},(gW (β:=Nat->Tm->Bool) (fun _ T=>k T) (fun a _ ih i T=>uC a T i fun T=>bV (Nat.succ i) fun i=>ih i T) args pre'.length T)=true->lM U args eK->
 TRs U T (pre'++List.replicate (n-pre'.length) undef)->(pre'.length<=n)->∃T',k T'=true/\TRs U T' (pre'++eK++List.replicate (n-(pre'++eK).length) undef):=by
 intro args;induction args with
 | nil=>
  intro eK pre pre' T hk ha hT hn;cases ha.kS;exact⟨T,hk,by simpa using hT⟩
 | cons a as ih=>
  intro eK pre pre' T hk ha hT hn;obtain⟨a',t',rfl,h1,h2⟩:=ha.dH;rw [bU]at hk;obtain⟨hi,hk⟩:=FT hk;rw [bK]at hk
  have hlt:pre'.length<n:=by
   have:=hT.1;simp at this;omega
  have hs:=hT.set hi h1
  have e:(pre'++List.replicate (n-pre'.length) undef).set pre'.length a'=(pre'++[a'])++List.replicate (n-(pre'++[a']).length) undef:=by
   rw [List.set_append_right _ _ (bR _)];have:n-pre'.length=(n-(pre'++[a']).length)+1:=by simp;omega
   rw [this,IF];simp
  rw [e]at hs
  have wO:(gW (β:=Nat->Tm->Bool) (fun _ T=>k T) (fun a _ ih i T=>uC a T i fun T=>bV (Nat.succ i) fun i=>ih i T) as (pre'++[a']).length (T.put pre'.length a))=true:=by
   simpa using hk
  obtain⟨T',g1,g2⟩:=ih (_pre:=[]) (pre':=pre'++[a']) wO h2 hs (by simp;omega);exact⟨T',g1,by simpa using g2⟩
theorem Jv{U:Rn}{k:Tm->Bool}{n:Nat}{args eK:List Value} (hk:aEr n args k=true) (ha:lM U args eK):
 ∃T,k T=true/\TRs U T ((⟨eK⟩:Array Value)++Array.replicate (n-(⟨eK⟩:Array Value).size) undef).toList:=by
 obtain⟨T,h1,h2⟩:=aHN (n:=n) (_pre:=[]) (pre':=[]) hk ha ⟨by simp,fun k v hv=>by cases hv⟩ (BG _);exact⟨T,h1,by simpa using h2⟩
theorem Xt (hc:kT E.P w0 E.call) (hr:nV E.P w0 E.round){dr:DrT} (hd:aF7 E w0 dr) (LA:∀(f:FuncId) (fn:Func),E.P.funcs[f]? =some fn->fn.name≠ "runtime.NumGoroutine"):kT E.P w0 (Cd E dr):=by
 intro f args S K U w eK hk h ha;unfold Cd at hk;split at hk
 ·rename_i fn hf
  split at hk
  ·rename_i c hb
   refine⟨fun w=>?_,?_⟩
   ·have hn:=LA f fn hf
    have hp:(program).run E.P w= .ok E.P w:=rfl;simp [callFunc,hp,hf,hn,hb]
   ·rw [bK]at hk
    obtain⟨ts,hk,Oj⟩:=Jv hk ha;refine callsIn_of_wp_marks hf hb trivial (Ec hc hr hd c (ro:=none) (r:=none) hk ⟨⟨Oj,rfl⟩,h,⟨rfl,by simp⟩⟩ (.inl ⟨rfl,rfl⟩) ?_)
    ·rintro e a' w' ⟨U',ae,A',S',rfl,g1,g2,g3⟩
     have fin:OX A'.marks S' (fun S=>sZ E.P fn.results.toList A' S fun vs=>match vs with | [v]=>K v S | vs=>K (.tuple ⟨vs⟩) S)=true->LeavesInM (UT none) 0 E.P fn a'.tmps (aF5 E.P w0 U w K) a'.defers .returning w':=by
      intro hk;refine Ed hk g2.rel g2.marks fun S2 w2 hk hrel WG=>?_;obtain⟨vs,vs',hk,LB,fN⟩:=WK hrel g2.act hk
      have aNP:(fn.results.mapM (fun | .tmp t=>pure (a'.tmps.getD t undef) | .cell x t=>do loadVar t (<-asAddr (a'.tmps.getD x undef)):ResultVar->Sem Value)).run E.P w2= .ok ⟨vs'⟩ w2:=by
       rw [<-Array.toArray_toList (xs:=fn.results),List.mapM_toArray];rw [Sem.run_map,fN];rfl
      refine⟨(if h:(⟨vs'⟩:Array Value).size=1 then(⟨vs'⟩:Array Value)[0]else .tuple ⟨vs'⟩),?_,?_⟩
      ·unfold results
       rw [cP];exact(iZ (fun r=>Result.andThen r _) aNP).trans rfl
      ·refine⟨_,rfl,?_⟩
       match vs,vs',hk,LB with
       | [v],[v'],hk,LB=>exact⟨U',v,S2,hk,LB.head,hrel,g3.trans WG⟩
       | [],[],hk,LB=>exact⟨U',_,S2,hk,.pO (.nil _),hrel,g3.trans WG⟩
       | a::b::l,a2::b2::l2,hk,LB=>
        have:¬(⟨a2::b2::l2⟩:Array Value).size=1:=by simp
        rw [dif_neg this];exact⟨U',_,S2,hk,.pO LB,hrel,g3.trans WG⟩
       | [],_::_,_,LB=>have:=LB.1;simp at this
       | _::_,[],_,LB=>have:=LB.1;simp at this
       | [_],_::_::_,_,LB=>have:=LB.1;simp at this
       | _::_::_,[_],_,LB=>have:=LB.1;simp at this
     cases ae with
     | normal=>exact fin g1
     | ret=>exact fin g1
     | exit id=>cases g1
  ·cases hk
 ·cases hk
end walk
section walk
variable{E:Env}{w0:World}
def aA5 (ps:List Tmp):List Value->Tm->(Tm->Bool)->Bool:=
 gW (β:=List Value->Tm->(Tm->Bool)->Bool) (fun as ts k=>match as with | []=>k ts | _=>false) (fun p _ ih as ts k=>match as with | a::as=>uC a ts p fun ts=>ih as ts k | []=>false) ps
theorem Pa{U:Rn}:∀{ps:List Tmp} {as as':List Value} {ts:Tm} {ts':Array Value} {k:Tm->Bool},aA5 ps as ts k=true->lM U as as'->TRs U ts ts'.toList->
 ∃out,k out=true/\as'.length=ps.length/\TRs U out ((ps.zip as').foldl (fun tmps (x:Tmp×Value)=>tmps.setIfInBounds x.1 x.2) ts').toList:=by
 intro ps;induction ps with
 | nil=>
  intro as as' ts ts' k hk ha ht;unfold aA5 at hk;rw [vP]at hk;split at hk
  ·cases ha.kS;exact⟨ts,hk,rfl,ht⟩
  ·cases hk
 | cons p ps ih=>
  intro as as' ts ts' k hk ha ht;unfold aA5 at hk;rw [bU]at hk;split at hk
  ·rename_i a as
   obtain⟨a',t',rfl,h1,h2⟩:=ha.dH;obtain⟨hp,hk⟩:=FT hk;have hk:aA5 ps as (ts.put p a) k=true:=hk;obtain⟨out,g1,g2,g3⟩:=ih (ts':=ts'.setIfInBounds p a') hk h2 (by rw [Bf];exact ht.set hp h1);exact⟨out,g1,by simp [g2],g3⟩
  ·cases hk
theorem Xu (hc:kT E.P w0 E.call) (hr:nV E.P w0 E.round){dr:DrT} (hd:aF7 E w0 dr):nV E.P w0 (Hx E dr):=by
 intro l args S K U w eK L hk h ha hL;unfold Hx at hk;obtain⟨o,ho,hk⟩:=oV hk;split at hk
 ·rename_i tmps params assign body st pe
  have hk:aA5 params args tmps (fun ts=>xL E dr (some l) assign ⟨ts,[],E.P.globals.size⟩ S fun e A S=>match e with
   | .normal=>rE S.h l fun o=>match o with
    | .loop tm ps as bo .ready pe=>sR S l (.loop tm ps as bo .busy pe) fun S=>xL E dr (some l) body A S fun e _ S=>
     rE S.h l fun o=>match o with
      | .loop tm ps as bo _ _=>match e with
       | .normal=>sR S l (.loop tm ps as bo .ready none) fun S=>K (.bool true) S
       | .ret=>sR S l (.loop tm ps as bo .done (some .ret)) fun S=>K (.bool false) S
       | .exit id=>sR S l (.loop tm ps as bo .done (some (.exit id))) fun S=>K (.bool false) S
      | _=>false
    | _=>false
   | _=>false)=true:=hk
  obtain⟨r,hb,hrr,hst,hpe,VV,has,hbo,htm⟩:=xP h ho hL;obtain⟨ts,hk,hlen,Oj⟩:=Pa hk ha htm
  have aCS:(Instr.yield L.b ⟨eK⟩).run E.P w= .ok (.round L.b r.fn ((r.params.zip ⟨eK⟩).foldl (fun tmps (x:Tmp×Value)=>tmps.setIfInBounds x.1 x.2) r.tmps) r.assign r.body) w:=by
   have hsz:(⟨eK⟩:Array Value).size=r.params.size:=by
    show eK.length=_;rw [hlen,<-VV];rfl
   have oJ:¬(⟨eK⟩:Array Value).size≠r.params.size:=fun hh=>hh hsz;simp only [Instr.yield,cP,run_getLoop hrr,eE,aG oJ,kJ]
  refine⟨_,_,_,_,aCS,?_⟩;refine roundIn_of_wpIn trivial ?_;rw [has]
  have aNQ:((r.params.zip ⟨eK⟩).foldl (fun tmps (x:Tmp×Value)=>tmps.setIfInBounds x.1 x.2) r.tmps)=(params.zip eK).foldl (fun tmps (x:Tmp×Value)=>tmps.setIfInBounds x.1 x.2) r.tmps:=by
   rw [<-Array.foldl_toList]
   congr 1
   rw [Array.toList_zip,VV]
  rw [aNQ];refine Ec hc hr hd assign (ro:=some L.b) hk ⟨⟨Oj,rfl⟩,h,⟨rfl,by simp⟩⟩ (.inr ⟨l,L,rfl,hL,rfl⟩) ?_
  rintro e a' w' ⟨U1,ae,A1,S1,rfl,g1,g2,g3⟩
  cases ae with
  | exit id=>cases g1
  | ret=>cases g1
  | normal=>
   simp only at g1;obtain⟨o1,ho1,g1⟩:=oV g1;have hL1:=g3.ext _ _ hL;split at g1
   ·rename_i tm ps as bo pe1
    obtain⟨r1,Dl,aHO,aNR,aNS,aNT,aNU,aNV,aNW⟩:=xP g2.rel ho1 hL1;obtain⟨q1,q2,q3⟩:=WJ g2.rel ho1 hL1 Dl aHO aNT aNU aNV aNW .busy pe1;rw [gS]at g1;refine⟨w'.putObj L.b (.loop {r1 with state:= .busy,pending:=pe1}),?_,?_⟩
    ·have q3':(setObj L.b (.loop {r1 with state:= .busy})).run E.P w'= .ok () (w'.putObj L.b (.loop {r1 with state:= .busy,pending:=pe1})):=by
      rw [<-aNS]at q3 ⊢;exact q3
     simp only [Instr.beginRound,cP,run_getLoop aHO,eE,q3',aNR,kJ]
    ·rw [hbo]
     refine Ec hc hr hd body (ro:=some L.b) g1 ⟨g2.act,q1,g2.marks⟩ (.inr ⟨l,L,rfl,hL1,rfl⟩) ?_
     rintro e2 a2 w2 ⟨U2,ae2,A2,S2,rfl,k1,k2,k3⟩
     obtain⟨o2,BL,k1⟩:=oV k1;have hL2:=k3.ext _ _ hL1;split at k1
     ·rename_i tm2 ps2 as2 bo2 st2 pe2
      obtain⟨r2,NH,aHP,aRQ,aRR,aNX,aNY,aNZ,aN0⟩:=xP k2.rel BL hL2
      have fin:∀(Mr:LoopState) (jump:Option Code) (bv:Bool),K (.bool bv) (S2.set l (.loop tm2 ps2 as2 bo2 Mr jump))=true->bv=jump.isNone->Mr=(if jump.isNone then .ready else .done)->
       ∃v w',(Instr.endRound L.b jump).run E.P w2= .ok v w'/\aF5 E.P w0 U w K (.returned v) w':=by
       intro Mr jump bv hK hbv aHQ;obtain⟨z1,z2,z3⟩:=WJ k2.rel BL hL2 NH aHP aNX aNY aNZ aN0 Mr jump;refine⟨.bool bv,_,?_,.bool bv,rfl,U2,.bool bv,_,hK,.flat rfl,z1,((g3.trans q2).trans k3).trans z2⟩;rw [aHQ]at z3 ⊢;simp only [Instr.endRound,cP,run_getLoop aHP,eE,z3,kJ,hbv]
      cases ae2 with
      | normal=>
       simp only [gS]at k1;exact fin .ready none true k1 rfl rfl
      | ret=>
       simp only [gS]at k1;exact fin .done (some .ret) false k1 rfl rfl
      | exit id=>
       simp only [gS]at k1;exact fin .done (some (.exit id)) false k1 rfl rfl
     ·cases k1
   ·cases g1
 ·cases hk
def Ee (P:Program) (w0:World) (ov:FuncId->Option (List Value->St->VK->Bool)):Prop:=∀f g,ov f=some g->kT P w0 (fun f' args S K=>match Nat.beq f' f with | true=>g args S K | false=>false)
theorem aNb (P:Program) (ov:FuncId->Option (List Value->St->VK->Bool)) (dr:Env->DrT) (most n:Nat):(env P ov dr most n).P=P:=by cases n<;>rfl
theorem aF8{P:Program}{ov:FuncId->Option (List Value->St->VK->Bool)}{dr:Env->DrT}{most:Nat} (hov:Ee P w0 ov) (LA:∀(f:FuncId) (fn:Func),P.funcs[f]? =some fn->fn.name≠ "runtime.NumGoroutine")
 (hdr:∀E:Env,E.P=P->kT P w0 E.call->nV P w0 E.round->aF7 E w0 (dr E)):∀n,kT P w0 (env P ov dr most n).call/\nV P w0 (env P ov dr most n).round:=by
 intro n;induction n with
 | zero=>
  refine⟨?_,?_⟩
  ·intro f args S K U w eK hk;cases hk
  ·intro l args S K U w eK L hk;cases hk
 | succ n ih=>
  obtain⟨ih1,ih2⟩:=ih;have hP:=aNb P ov dr most n;have hd:=hdr (env P ov dr most n) hP ih1 ih2;refine⟨fun f args S K U w eK hk h ha=>?_,?_⟩
  ·have hk:(match(generalizing:=false) ov f with | some g=>g args S K | none=>Cd (env P ov dr most n) (dr (env P ov dr most n)) f args S K)=true:=hk
   split at hk
   ·rename_i g hg
    exact hov f g hg f args S K U w eK (by simpa using hk) h ha
   ·have:=Xt (E:=env P ov dr most n) (by rw [hP];exact ih1) (by rw [hP];exact ih2) hd (by rw [hP];exact LA) f args S K U w eK hk (by rw [hP];exact h) ha
    rw [hP]at this;exact this
  ·have:=Xu (E:=env P ov dr most n) (by rw [hP];exact ih1) (by rw [hP];exact ih2) hd
   rw [hP]at this;exact this
end walk
section any
variable{ro:Option Nat}{P:Program}{ops:Array Oper}{Q:Exit->Act->World->Prop}
def Yl (P:Program) (ops:Array Oper) (i:Nat) (v:Value) (a:Act) (w:World):Prop:=
 ∃o,ops[i]? =some o/\((Region.wanted o (yielded ops a.tmps)=true/\(execOp a.eval o).run P w= .ok (.value v) w)\/(Region.wanted o (yielded ops a.tmps)=false/\v=undef))
def dep (ops:Array Oper) (j i:Nat):Bool:=match ops[j]? with | some o=>o.after.any (fun e=>Region.binds .any e&&e.on==i) | none=>false
theorem aF9{j i:Nat}{o:Oper} (hj:ops[j]? =some o) (h:dep ops j i=false):∀e∈o.after,Region.binds .any e=true->e.on≠i:=by
 intro e he hb hi;unfold dep at h;rw [hj]at h;simp only [Array.any_eq_false]at h;obtain⟨k,hk,rfl⟩:=Array.mem_iff_getElem.1 he;have:=h k hk;simp [hb,hi]at this
theorem aGa{i j:Nat}{listed:Array Bool} (hi:listed.getD i false=false) (hj:j∈Region.ready .any ops listed):dep ops j i=false:=by
 obtain⟨_,o,ho,rH⟩:=mem_ready.1 hj;unfold dep;rw [ho];simp only [Array.any_eq_false];intro k hk;have:=rH _ (Array.getElem_mem hk);cases hb:Region.binds .any o.after[k]with
 | false=>simp
 | true=>
  have h2:=this hb;simp only [Hs,beq_iff_eq];intro e;rw [e,hi]at h2;cases h2
def Plain (ops:Array Oper):Prop:=∀(j:Nat) (o:Oper),ops[j]? =some o->(∀cs b,o.op≠ .select cs b)/\∀c,o.op≠ .defer c
theorem Yl.put{i:Nat}{v u:Value}{a:Act}{d:Option Tmp}{w:World} (xA:Plain ops) (h:∀o,ops[i]? =some o->∀t,d=some t->t∉o.looksAt ops):Yl P ops i v (a.put d u) w↔Yl P ops i v a w:=by
 unfold Yl;constructor
 ·rintro⟨o,ho,h1⟩
  rw [wanted_put o a d u (h o ho),execOp_put o (xA i o ho).1 a d u (h o ho)]at h1;exact⟨o,ho,h1⟩
 ·rintro⟨o,ho,h1⟩
  refine⟨o,ho,?_⟩;rw [wanted_put o a d u (h o ho),execOp_put o (xA i o ho).1 a d u (h o ho)];exact h1
theorem Yl.run{i:Nat}{o:Oper}{v:Value}{a:Act}{w:World} (xA:Plain ops) (hi:ops[i]? =some o) (h:Yl P ops i v a w){K:Act->World->Prop} (hk:K (a.put o.dst v) w):wpOpIn (UT ro) 0 P ops Q i K a w:=by
 obtain⟨o',WH,h⟩:=h;rw [hi]at WH;injection WH with WH;subst WH;unfold wpOpIn;simp only [hi];rcases h with ⟨hw,hr⟩ | ⟨hw,rfl⟩
 ·simp only [hw,if_true,Oper.wpIn,Oper.semAt_eq _ _ _ (xA i o hi).2,hr,Oper.uponIn]
  exact⟨fun _ _=>trivial,hk⟩
 ·simp only [hw,Ho,if_false]
  exact⟨fun _ _=>trivial,hk⟩
def DL (ro:Option Nat) (P:Program) (ops:Array Oper) (Q:Exit->Act->World->Prop):Nat->List (Nat×Value)->Array Bool->Act->World->Prop
 | 0,J,listed,a,w=>(∀p∈J,Yl P ops p.1 p.2 a w)/\Region.ready .any ops listed=[]/\Q .normal a w
 | f+1,J,listed,a,w=>(∀p∈J,Yl P ops p.1 p.2 a w)/\(Region.ready .any ops listed=[]->Q .normal a w)/\
  ∀j∈Region.ready .any ops listed,wpOpIn (UT ro) 0 P ops Q j (DL ro P ops Q f (J.filter fun p=> !dep ops j p.1) (listed.setIfInBounds j true)) a w
theorem DL.yl{f:Nat}{J:List (Nat×Value)}{listed:Array Bool}{a:Act}{w:World} (h:DL ro P ops Q f J listed a w):∀p∈J,Yl P ops p.1 p.2 a w:=by cases f<;>exact h.1
theorem DL.mono:∀{f:Nat} {J J':List (Nat×Value)} {listed:Array Bool} {a:Act} {w:World},DL ro P ops Q f J listed a w->(∀p∈J',p∈J)->DL ro P ops Q f J' listed a w:=by
 intro f;induction f with
 | zero=>intro J J' listed a w h hs;exact⟨fun p hp=>h.1 p (hs p hp),h.2⟩
 | succ f ih=>
  intro J J' listed a w h hs;refine⟨fun p hp=>h.1 p (hs p hp),h.2.1,fun j hj=>wpOpIn_mono (fun a w h=>ih h fun p hp=>?_) (h.2.2 j hj)⟩;rw [Bl]at hp ⊢;exact⟨hs p hp.1,hp.2⟩
theorem DL.any:∀{f:Nat} {J:List (Nat×Value)} {listed:Array Bool} {a:Act} {w:World},DL ro P ops Q f J listed a w->wpAnyIn (UT ro) 0 P .any ops Q f listed a w:=by
 intro f;induction f with
 | zero=>intro J listed a w h;exact h.2
 | succ f ih=>intro J listed a w h;exact⟨h.2.1,fun j hj=>wpOpIn_mono (fun a w h=>ih h) (h.2.2 j hj)⟩
theorem aA6 (xA:Plain ops){j:Nat}{oi oj:Oper}{v:Value} (hj:ops[j]? =some oj) (hap:oi.apart ops oj=true) (hQ:∀c a w,¬Q (.panic c) a w){K:Act->World->Prop}{a:Act}{w:World}
 (h:wpOpIn (UT ro) 0 P ops Q j K (a.put oi.dst v) w):wpOpIn (UT ro) 0 P ops Q j (fun a' w'=>K (a'.put oi.dst v) w') a w:=by
 obtain⟨h1,h2,h3⟩:=Oper.apart_spec hap;obtain⟨p1,p2⟩:=xA j oj hj;unfold wpOpIn at*;simp only [hj]at*;rw [wanted_put oj a oi.dst v h1]at h;split
 ·rename_i hw
  simp only [hw,if_true]at h;unfold Oper.wpIn at*;refine⟨fun _ _=>trivial,?_⟩;have h:=h.2;rw [Oper.semAt_eq _ _ _ p2,execOp_put oj p1 a oi.dst v h1]at h;rw [Oper.semAt_eq _ _ _ p2];generalize (execOp a.eval oj).run P w=r at*;cases r with
  | ok x w'=>
   cases x<;>simp only [Oper.uponIn]at h ⊢
   case value u=>rw [<-Act.put_comm a v u h2];exact h
   case skip=>rw [<-Act.put_comm a v undef h2];exact h
   case defer d=>
    rw [<-Act.put_comm _ v undef h2,<-Act.put_defers];exact h
   case enter f args=>
    refine⟨h.1,CallsIn.mono h.2 fun e w'' he=>?_⟩;cases e with
    | returned u=>show K _ _;rw [<-Act.put_comm a v u h2];exact he
    | panicked c=>exact aX he (hQ _ _ _)
    | outgrown=>exact he
   case row row args=>exact⟨h.1,RowsIn.mono h.2 fun u w'' he=>by rw [<-Act.put_comm a v u h2];exact he⟩
   case round l f tmps assign body=>
    refine⟨h.1,RoundIn.mono h.2 fun e w'' he=>?_⟩;cases e with
    | returned u=>show K _ _;rw [<-Act.put_comm a v u h2];exact he
    | panicked c=>exact aX he (hQ _ _ _)
    | outgrown=>exact he
  | halt x w'=>
   cases x<;>simp only [Oper.uponIn]at h ⊢
   case panic u=>exact aX h (hQ _ _ _)
 ·rename_i hw
  simp only [hw]at h;exact⟨fun _ _=>trivial,by rw [<-Act.put_comm a v undef h2];exact h.2⟩
theorem DL.take (xA:Plain ops) (hQ:∀c a w,¬Q (.panic c) a w){i:Nat}{oi:Oper}{v:Value} (hi:ops[i]? =some oi) (NJ:∀d,oi.dst=some d->d∉oi.looksAt ops):
 ∀(f:Nat) (J:List (Nat×Value)) (listed:Array Bool) (a:Act) (w:World),
  (∀j oj,ops[j]? =some oj->j≠i->listed.getD j true=false->(∀e∈oj.after,Region.binds .any e=true->e.on≠i)->oi.apart ops oj=true)->
  (∀p∈J,∀o,ops[p.1]? =some o->∀t,oi.dst=some t->t∉o.looksAt ops)->i∈Region.ready .any ops listed->
  DL ro P ops Q f ((i,v)::J) (listed.setIfInBounds i true) (a.put oi.dst v) w->DL ro P ops Q (f+1) J listed a w:=by
 intro f;have aNc:∀(a:Act) (w:World),Yl P ops i v (a.put oi.dst v) w->Yl P ops i v a w:=fun a w h=>(Yl.put xA (fun o ho t ht=>by rw [hi]at ho;injection ho with ho;subst ho;exact NJ t ht)).1 h;induction f with
 | zero=>
  intro J listed a w IV hJ hr H;have hY:=H.yl;refine⟨fun p hp=>(Yl.put xA (hJ p hp)).1 (hY p (.tail _ hp)),fun h=>(by rw [h]at hr;cases hr),fun j hj=>?_⟩;by_cases hji:j=i
  ·subst hji
   exact Yl.run xA hi (aNc a w (hY _ (.head _))) (DL.mono H fun p hp=> .tail _ (List.mem_filter.1 hp).1)
  ·have:=ready_mono hj hji
   rw [H.2.1]at this;cases this
 | succ f ih=>
  intro J listed a w IV hJ hr H;have hY:=H.yl;refine⟨fun p hp=>(Yl.put xA (hJ p hp)).1 (hY p (.tail _ hp)),fun h=>(by rw [h]at hr;cases hr),fun j hj=>?_⟩;by_cases hji:j=i
  ·subst hji
   exact Yl.run xA hi (aNc a w (hY _ (.head _))) (DL.mono H fun p hp=> .tail _ (List.mem_filter.1 hp).1)
  ·have h1:=H.2.2 j (ready_mono hj hji)
   obtain⟨aP2,oj,hoj,rH⟩:=mem_ready.1 hj
   have aRS:listed.getD i false=false:=by
    have h0:=(mem_ready.1 hr).1;rcases BF i listed.size with h' | h'
    ·simp [h']at h0 ⊢;exact h0
    ·simp [Array.getElem?_eq_none h']at h0
   have aLe:=aGa aRS hj;have h2:=aA6 xA hoj (IV j oj hoj hji aP2 (aF9 hoj aLe)) hQ h1;refine wpOpIn_mono (fun a' w' h3=>ih _ (listed.setIfInBounds j true) a' w' (fun k ok hk hki hun xC=>?_) (fun p hp=>hJ p (List.mem_filter.1 hp).1) (ready_mono hr (aO hji)) ?_) h2
   ·refine IV k ok hk hki ?_ xC
    by_cases hjk:j=k
    ·subst hjk;exact aP2
    ·rw [getD_set_ne true hjk]at hun;exact hun
   ·rw [Array.setIfInBounds_comm _ _ hji]
    rw [List.filter_cons_of_pos (by simp [aLe])]at h3;exact h3
end any
section ops
variable{E:Env}{w0:World}{U:Rn}{S:St}{w:World}
def qR (P:Program) (o:Oper):Bool:=match o.op with
 | .move _ | .assign _ | .pick .. | .build .. | .nilCheck _ | .binOp .. | .unOp .. | .makeInterface .. | .makeFunc .. | .slice .. | .fieldAddr .. | .field .. | .indexAddr .. | .index .. | .extract .. =>true
 | .convert _ d _=>match P.underlying d with | some (.int _)=>true | _=>false
 | .call c=>match c.callee with
  | .builtin .len=>match c.argTypes.toList with | t::_=>(match P.underlying t with | some (.slice _) | some .string=>true | _=>false) | []=>false
  | _=>false
 | _=>false
def DM (o:Oper):Bool:=match o.op with
 | .load .. | .lookup .. =>true
 | _=>false
def UU (P:Program) (U:Rn) (S:St) (K:VK) (s:Sem Go.Next):Prop:=∃v v',K v S=true/\VR U v v'/\∀w,s.run P w= .ok (.value v') w
theorem UU.mk{P:Program}{K:VK}{s:Sem Value}{v v':Value} (hk:K v S=true) (hv:VR U v v') (hr:∀w,s.run P w= .ok v' w):UU P U S K (do pure (.value (<-s))):=
 ⟨v,v',hk,hv,fun w=>by rw [cP,hr];rfl⟩
theorem SG (h:Rel E.P w0 U S w){A:bC}{a:Act} (hA:BI E.P U A a){o:Oper} (hp:qR E.P o=true){K:VK} (hk:AD E o A S K=true):UU E.P U S K (execOp a.eval o):=by
 unfold AD at hk;unfold execOp;unfold qR at hp;split at hk<;>first | (cases hk;done) | skip
 all_goals (rename_i Ot;rw [Ot]at hp;first | (cases hp;done) | skip)
 all_goals (simp only [Ot])
 ·obtain⟨v,hk,hv⟩:=aV h hA hk
  exact⟨v,_,hk,hv,fun w=>rfl⟩
 ·obtain⟨v,hk,hv⟩:=aV h hA hk
  exact⟨v,_,hk,hv,fun w=>rfl⟩
 ·obtain⟨c,hk,hc⟩:=aV h hA hk
  obtain⟨x,hk,hx⟩:=aV h hA hk;obtain⟨y,hk,hy⟩:=aV h hA hk;split at hk
  ·have:=hc.of_flat rfl
   exact⟨_,_,hk,hx,fun w=>by simp [this,asBool]⟩
  ·have:=hc.of_flat rfl
   exact⟨_,_,hk,hy,fun w=>by simp [this,asBool]⟩
  ·cases hk
 ·obtain⟨v,v',hk,hv,hr⟩:=Du h hA hk
  exact UU.mk hk hv hr
 ·obtain⟨x,hk,hx⟩:=aV h hA hk
  split at hk
  ·rename_i ad
   obtain⟨i,off,sp⟩:=ad;have hx2:=hx;obtain⟨_,L,hL,e⟩:=hx.JT;rw [e]at hx2 ⊢;exact⟨_,_,hk,hx2,fun w=>rfl⟩
  ·rename_i f x1 x2
   generalize hg:a.eval _=v' at hx ⊢;cases hx with
   | flat hf=>simp [bW]at hf
   | func h1 h2 h3 h4=>exact⟨_,_,hk,.func h1 h2 h3 h4,fun w=>rfl⟩
  ·rename_i f x1 x2
   generalize hg:a.eval _=v' at hx ⊢;cases hx with
   | flat hf=>simp [bW]at hf
   | yield h1=>exact⟨_,_,hk,.yield h1,fun w=>rfl⟩
  ·rename_i s t x1
   generalize hg:a.eval _=v' at hx ⊢;cases hx with
   | flat hf=>simp [bW]at hf
   | KZ h1=>
    cases h1 with
    | flat hf=>simp [bW]at hf
    | iface h2=>
     split at hk
     ·rename_i g hm
      exact⟨_,_,hk,.KZ (.iface h2),fun w=>NI hm _ w⟩
     ·cases hk
  ·rename_i t x1
   generalize hg:a.eval _=v' at hx ⊢;cases hx with
   | flat hf=>simp [bW]at hf
   | iface h1=>exact⟨_,_,hk,.iface h1,fun w=>rfl⟩
  ·cases hk
 ·obtain⟨x,hk,hx⟩:=aV h hA hk
  obtain⟨y,hk,hy⟩:=aV h hA hk;obtain⟨v,hk,hf,hr⟩:=Ov hk hx hy;exact UU.mk hk (.flat hf) (hr _ _)
 ·obtain⟨x,hk,hx⟩:=aV h hA hk
  obtain⟨v,hk,hf,hr⟩:=Ve (P:=E.P) hk hx;exact UU.mk hk (.flat hf) hr
 ·
   rename_i s d x;obtain⟨x,hk,hx⟩:=aV h hA hk;simp only at hp;split at hp
   ·rename_i kd hd
    unfold Jn at hk;split at hk
    ·rename_i kk n
     rw [hx.of_flat rfl];split at hk
     ·rename_i dd k hs hd2
      unfold OV at hk;rw [nU,KW]at hk;refine UU.mk hk (.flat rfl) fun w=>?_;simp [convert,run_underlying hs,run_underlying hd2,Conv.intToInt]
     ·cases hk
    ·split at hk
     ·rename_i h1 h2;rw [hd]at h2;cases h2
     ·rename_i h1 h2;rw [hd]at h2;cases h2
     ·cases hk
    ·split at hk
     ·rename_i h1 h2;rw [hd]at h2;cases h2
     ·cases hk
    ·split at hk
     ·cases hk
     ·rename_i h1 h2 _;rw [hd]at h2;cases h2
     ·cases hk
    ·cases hk
   ·cases hp
 ·obtain⟨x,hk,hx⟩:=aV h hA hk
  split at hk
  ·cases hk
  ·rename_i d hd hu
   refine UU.mk hk (.iface hx) fun w=>?_;simp only [Instr.makeInterface,cP,run_underlying hu,eE];cases d<;>first | rfl | exact aX hu (hd _)
  ·cases hk
 ·split at hk
  ·obtain⟨x,hk,hx⟩:=BM h hA hk
   obtain⟨y,hk,hy⟩:=BM h hA hk;have hx:=hx.map_toArray;have hy:=hy.map_toArray;exact UU.mk hk (.func hx.1 hy.1 hx.2 hy.2) fun w=>rfl
  ·split at hk
   ·rename_i x ZI hx2
    obtain⟨v,hk,hv⟩:=aV h hA hk;have e1:=Array.toList_inj.1 (show _=(⟨[x]⟩:Array Operand).toList from ZI);have e2:=Array.toList_inj.1 (show _=(⟨[]⟩:Array Operand).toList from hx2);subst e1 e2;exact UU.mk hk (.KZ hv) fun w=>by simp [Instr.makeFunc]
   ·cases hk
  ·cases hk
 ·rename_i t x lo hi mx
  have hmh:mx.map a.eval=none\/hi.map a.eval≠none:=by
   cases mx with
   | none=>exact .inl rfl
   | some m=>cases hi with
    | none=>exact aX hk (by simp)
    | some _=>exact .inr (by simp)
  replace hk:(vM A x fun x=>Bz A lo fun lo=>Bz A hi fun hi=>Bz A mx fun mx=>uQ E.P t x lo hi mx S fun v=>K v S)=true:=by
   cases mx<;>cases hi<;>first | exact hk | cases hk
  obtain⟨x,hk,hx⟩:=aV h hA hk;obtain⟨lo,hk,hlo⟩:=FU h hA hk;obtain⟨hi,hk,hhi⟩:=FU h hA hk;obtain⟨mx,hk,hmx⟩:=FU h hA hk
  have hO:∀(x:Option Operand) (v:Option Value),(v=none/\x=none\/∃u y,v=some u/\x=some y/\VR U u (a.eval y))->Lh U v (x.map a.eval):=by
   intro x v hv;rcases hv with ⟨rfl,rfl⟩ | ⟨u,y,rfl,rfl,hr⟩
   ·exact .inl ⟨rfl,rfl⟩
   ·exact .inr ⟨u,_,rfl,rfl,hr⟩
  obtain⟨v,v',hk,hv,hr⟩:=Eb h hk hx (hO _ _ hlo) (hO _ _ hhi) (hO _ _ hmx) hmh;exact UU.mk hk hv hr
 ·obtain⟨x,hk,hx⟩:=aV h hA hk
  obtain⟨v,v',hk,hv,hr⟩:=PS hk hx;exact UU.mk hk hv hr
 ·obtain⟨x,hk,hx⟩:=aV h hA hk
  obtain⟨v,v',hk,hv,hr⟩:=Dr hk hx;exact UU.mk hk hv hr
 ·obtain⟨x,hk,hx⟩:=aV h hA hk
  obtain⟨y,hk,hy⟩:=aV h hA hk;obtain⟨v,v',hk,hv,hr⟩:=PR hk hx hy;exact UU.mk hk hv hr
 ·obtain⟨x,hk,hx⟩:=aV h hA hk
  obtain⟨y,hk,hy⟩:=aV h hA hk;obtain⟨v,v',hk,hv,hr⟩:=Ds hk hx hy;exact UU.mk hk hv hr
 ·rename_i tt ix
  obtain⟨x,hk,hx⟩:=aV h hA hk;split at hk
  ·obtain⟨vs',e,hl⟩:=hx.PX
   obtain⟨v,hv,hk⟩:=PT hk;obtain⟨v',PU,hr⟩:=hl.get hv;refine UU.mk hk hr fun w=>?_;rw [e];have:vs'[ix]? =some v':=by simpa using PU
   simp [Instr.extract,this]
  ·cases hk
 ·
   rename_i c;simp only at hp;split at hp
   ·rename_i hb
    split at hp
    ·rename_i t rest Oj
     have h0:c.argTypes[0]? =some t:=by have:=iZ (·[0]?) Oj;simpa using this
     unfold mX at hk;obtain⟨args,hk,TQ⟩:=BM h hA hk;rw [hb]at hk;simp only at hk
     have e2:(do let d<-resolve a.eval c o.type;invoke d.target d.args:Sem Go.Next)=(do pure (.value (<-Builtin.len_ c.argTypes o.type (c.args.map a.eval)))):=by
      unfold resolve;rw [hb];rfl
     rw [e2];have e:(c.args.map a.eval)=⟨c.args.toList.map a.eval⟩:=by apply Array.toList_inj.1;simp
     rw [e];generalize c.args.toList.map a.eval=eK at TQ;unfold oL at hk;split at hk<;>first | (cases hk;done) | (rename_i hbb;cases hbb;done) | skip
     rename_i x _;obtain⟨x',t',rfl,hx,ht'⟩:=TQ.dH;cases ht'.kS;rw [Oj]at hk;simp only at hk;split at hk
     ·rename_i base n cc
      split at hk
      ·rename_i e he
       have hu:=gE he;refine UU.mk hk (v':= .int .i64 (n:Int)) .nat fun w=>?_;have main:∀b' c',(Builtin.len_ c.argTypes o.type ⟨[.slice b' n c']⟩).run E.P w= .ok (.int .i64 (n:Int)) w:=fun b' c'=>by simp [Builtin.len_,h0,run_underlying hu,goInt]
       cases hx with
       | flat _=>exact main _ _
       | slice _=>exact main _ _
       | rF _ _ _ _ _=>exact main _ _
       | DD=>exact main _ _
       | DF _=>exact main _ _
      ·cases hk
     ·rename_i s
      rw [hx.of_flat rfl];split at hk
      ·rename_i hu
       rw [nT]at hk;refine UU.mk hk (v':= .int .i64 (s.data.toList.length:Int)) .nat fun w=>?_;simp [Builtin.len_,h0,run_underlying hu,goInt]
      ·cases hk
     ·split at hk
      ·rename_i q hm
       have hu:=BZ hm;rw [hu]at hp;cases hp
      ·cases hk
     ·split at hk
      ·rename_i n e hu
       rw [hu]at hp;cases hp
      ·cases hk
     ·cases hk
    ·cases hp
   ·cases hp
theorem Ef (h:Rel E.P w0 U S w){A:bC}{a:Act} (hA:BI E.P U A a){o:Oper} (hp:DM o=true){K:VK} (hk:AD E o A S K=true):
 ∃v v',K v S=true/\VR U v v'/\(execOp a.eval o).run E.P w= .ok (.value v') w:=by
 unfold AD at hk;unfold execOp;unfold DM at hp;split at hk<;>first | (cases hk;done) | skip
 all_goals (rename_i Ot;rw [Ot]at hp;first | (cases hp;done) | skip)
 all_goals (simp only [Ot])
 ·obtain⟨x,hk,hx⟩:=aV h hA hk
  obtain⟨v,v',hk,hv,hr⟩:=WE h hk hx;exact⟨v,v',hk,hv,by rw [cP,hr];rfl⟩
 ·obtain⟨x,hk,hx⟩:=aV h hA hk
  obtain⟨y,hk,hy⟩:=aV h hA hk;obtain⟨v,v',hk,hv,hr⟩:=ZZ h hk hx hy;exact⟨v,v',hk,hv,by rw [cP,hr];rfl⟩
end ops
def Eg:Value->Value->Bool
 | .bool a,.bool b=>a==b
 | .int j a,.int k b=>FM j k&&eqI a b
 | .string a,.string b=>Nv a.data.toList b.data.toList
 | .pointer none,.pointer none | .nilFunc,.nilFunc | .nilIface,.nilIface | .map none,.map none=>true
 | .pointer (some ⟨i,o,none⟩),.pointer (some ⟨j,p,none⟩)=>Nat.beq i j&&Nat.beq o p
 | .slice none n c,.slice none m d=>Nat.beq n m&&Nat.beq c d
 | .slice (some ⟨i,o,none⟩) n c,.slice (some ⟨j,p,none⟩) m d=>(Nat.beq i j&&Nat.beq o p)&&(Nat.beq n m&&Nat.beq c d)
 | .map (some i),.map (some j)=>Nat.beq i j
 | .slice (some ⟨i,o,some 0⟩) n c,.slice (some ⟨j,p,some 0⟩) m d=>(Nat.beq i j&&Nat.beq o p)&&(Nat.beq n m&&Nat.beq c d)
 | .slice (some ⟨i,o,some (s+2)⟩) _ _,.slice (some ⟨j,p,some (t+2)⟩) _ _=>(Nat.beq i j&&Nat.beq o p)&&Nat.beq s t
 | .func (.func f) ⟨[]⟩ ⟨[]⟩,.func (.func g) ⟨[]⟩ ⟨[]⟩=>Nat.beq f g
 | .func (.func f) ⟨[]⟩ ⟨[.pointer (some ⟨i,o,none⟩)]⟩,.func (.func g) ⟨[]⟩ ⟨[.pointer (some ⟨j,p,none⟩)]⟩=>Nat.beq f g&&(Nat.beq i j&&Nat.beq o p)
 | .func (.yield i) ⟨[]⟩ ⟨[]⟩,.func (.yield j) ⟨[]⟩ ⟨[]⟩=>Nat.beq i j
 | _,_=>false
def JW (f:Value->Value->Bool):List Value->List Value->Bool
 | [],[]=>true
 | a::l,b::m=>f a b&&JW f l m
 | _,_=>false
def Jw:Nat->Value->Value->Bool
 | 0,a,b=>Eg a b
 | n+1,.func (.func f) ⟨a⟩ ⟨c⟩,.func (.func g) ⟨b⟩ ⟨d⟩=>Nat.beq f g&&(JW (Jw n) a b&&JW (Jw n) c d)
 | _+1,a,b=>Eg a b
def aA7 (a b:Value):Bool:=Jw 3 a b
def Vg:List Value->List Value->Bool
 | [],[]=>true
 | a::l,b::m=>aA7 a b&&Vg l m
 | _,_=>false
def Jx:Value->Value->Bool
 | .agg a,.agg b=>Vg a.toList b.toList
 | a,b=>aA7 a b
def Ib:List Value->List Value->Bool
 | [],[]=>true
 | a::l,b::m=>Jx a b&&Ib l m
 | _,_=>false
def TS:Value->Value->Bool
 | .tuple a,.tuple b=>Ib a.toList b.toList
 | a,b=>Jx a b
theorem VR.aNd{U:Rn}{f:FuncId}{x:Value} (h:VR U (.func (.func f) ⟨[]⟩ ⟨[]⟩) x):x= .func (.func f) ⟨[]⟩ ⟨[]⟩:=by
 cases h with
 | flat h=>simp [bW]at h
 | @func _ _ a' _ c' ha hc _ _=>
  rw [aCI (xs:=a') (by simpa using ha.symm),aCI (xs:=c') (by simpa using hc.symm)]
theorem VR.aNe{U:Rn}{f:FuncId}{i o:Nat}{x:Value} (h:VR U (.func (.func f) ⟨[]⟩ ⟨[.pointer (some ⟨i,o,none⟩)]⟩) x):∃L,U i=some L/\x= .func (.func f) ⟨[]⟩ ⟨[.pointer (some ⟨L.b,L.s+o,none⟩)]⟩:=by
 cases h with
 | flat h=>simp [bW]at h
 | @func _ _ a' _ c' ha hc _ h2=>
  obtain⟨l⟩:=c'
  match l,hc,h2 with
  | [p],_,h2=>
   have hp:=h2 0 _ _ rfl rfl;obtain⟨_,L,hL,rfl⟩:=hp.JT;exact⟨L,hL,by rw [aCI (xs:=a') (by simpa using ha.symm)]⟩
theorem VR.Vh{U:Rn}{l:Nat}{x:Value} (h:VR U (.func (.yield l) ⟨[]⟩ ⟨[]⟩) x):∃L,U l=some L/\x= .func (.yield L.b) #[] #[]:=by
 cases h with
 | flat h=>simp [bW]at h
 | yield h=>exact⟨_,h,rfl⟩
theorem Jy{U:Rn}{a b x y:Value} (h:Eg a b=true) (hx:VR U a x) (hy:VR U b y):x=y:=by
 unfold Eg at h;split at h
 ·have e:=eq_of_beq h;subst e;rw [hx.of_flat rfl,hy.of_flat rfl]
 ·rw [dR]at h
  have e1:=KX h.1;subst e1;have e2:=h.2;rw [RR]at e2;have e2:=eq_of_beq e2;subst e2;rw [hx.of_flat rfl,hy.of_flat rfl]
 ·rw [RT]at h
  have e:=eq_of_beq h;rw [hx.of_flat rfl,hy.of_flat rfl,ByteArray.ext (Array.toList_inj.1 e)]
 ·rw [hx.of_flat rfl,hy.of_flat rfl]
 ·rw [hx.of_flat rfl,hy.of_flat rfl]
 ·rw [hx.of_flat rfl,hy.of_flat rfl]
 ·rw [hx.of_flat rfl,hy.of_flat rfl]
 ·rw [dR]at h
  have e1:=dE h.1;have e2:=dE h.2;subst e1 e2;obtain⟨_,L,hL,rfl⟩:=hx.JT;obtain⟨_,M,hM,rfl⟩:=hy.JT;rw [hL]at hM;injection hM with hM;subst hM;rfl
 ·rw [dR]at h
  have e1:=dE h.1;have e2:=dE h.2;subst e1 e2;rw [hx.of_flat rfl,hy.of_flat rfl]
 ·simp only [dR]at h
  have e1:=dE h.1.1;have e2:=dE h.1.2;have e3:=dE h.2.1;have e4:=dE h.2.2;subst e1 e2 e3 e4;rcases hx.mQ with ⟨L,c1,hL,rfl,⟨_,rfl⟩ | ⟨hs,_⟩⟩ | ⟨⟨_,hs⟩,_⟩
  ·rcases hy.mQ with ⟨M,c2,hM,rfl,⟨_,rfl⟩ | ⟨hs,_⟩⟩ | ⟨⟨_,hs⟩,_⟩
   ·rw [hL]at hM;injection hM with hM;subst hM;rfl
   ·cases hs
   ·cases hs
  ·cases hs
  ·cases hs
 ·have e1:=dE h
  subst e1;obtain⟨L,hL,rfl⟩:=hx.JV;obtain⟨M,hM,rfl⟩:=hy.JV;rw [hL]at hM;injection hM with hM;subst hM;rfl
 ·simp only [dR]at h
  have e1:=dE h.1.1;have e2:=dE h.1.2;have e3:=dE h.2.1;have e4:=dE h.2.2;subst e1 e2 e3 e4;rcases hx.mQ with ⟨L,c1,hL,rfl,⟨hs,_⟩ | ⟨_,_,_,q1,q2⟩⟩ | ⟨⟨_,hs⟩,_⟩
  ·cases hs
  ·rcases hy.mQ with ⟨M,c2,hM,rfl,⟨hs,_⟩ | ⟨_,_,_,q3,q4⟩⟩ | ⟨⟨_,hs⟩,_⟩
   ·cases hs
   ·rw [hL]at hM;injection hM with hM;subst hM
    have:c1*L.m=c2*L.m:=by omega
    rw [Nat.eq_of_mul_eq_mul_right q2 this]
   ·cases hs
  ·cases hs
 ·simp only [dR]at h
  have e1:=dE h.1.1;have e2:=dE h.1.2;have e3:=dE h.2;subst e1 e2 e3;cases hx with
  | flat h=>simp [bW]at h
  | DF hs=>cases hy with
   | flat h=>simp [bW]at h
   | DF tZ=>rw [hs,tZ]
 ·have e1:=dE h
  subst e1;rw [hx.aNd,hy.aNd]
 ·simp only [dR]at h
  have e1:=dE h.1;have e2:=dE h.2.1;have e3:=dE h.2.2;subst e1 e2 e3;obtain⟨L,hL,rfl⟩:=hx.aNe;obtain⟨M,hM,rfl⟩:=hy.aNe;rw [hL]at hM;injection hM with hM;subst hM;rfl
 ·have e1:=dE h
  subst e1;obtain⟨L,hL,rfl⟩:=hx.Vh;obtain⟨M,hM,rfl⟩:=hy.Vh;rw [hL]at hM;injection hM with hM;subst hM;rfl
 ·cases h
theorem Ac{U:Rn}{f:Value->Value->Bool} (hf:∀{a b x y:Value},f a b=true->VR U a x->VR U b y->x=y):∀{a b x y:List Value},JW f a b=true->lM U a x->lM U b y->x=y:=by
 intro a;induction a with
 | nil=>
  intro b x y h hx hy;cases b with
  | nil=>rw [hx.kS,hy.kS]
  | cons b l=>cases h
 | cons a l ih=>
  intro b x y h hx hy;cases b with
  | nil=>cases h
  | cons b m=>
   simp only [JW,dR]at h;obtain⟨a',l',rfl,h1,h2⟩:=hx.dH;obtain⟨b',m',rfl,h3,h4⟩:=hy.dH;rw [hf h.1 h1 h3,ih h.2 h2 h4]
theorem VR.aA8{U:Rn}{f:FuncId}{a c:List Value}{x:Value} (h:VR U (.func (.func f) ⟨a⟩ ⟨c⟩) x):∃a' c',x= .func (.func f) ⟨a'⟩ ⟨c'⟩/\lM U a a'/\lM U c c':=by
 cases h with
 | flat h=>simp [bW]at h
 | @func _ _ a' _ c' ha hc h1 h2=>exact⟨a'.toList,c'.toList,rfl,⟨by simpa using ha,h1⟩,⟨by simpa using hc,h2⟩⟩
theorem aA9{U:Rn}:∀(n:Nat) {a b x y:Value},Jw n a b=true->VR U a x->VR U b y->x=y:=by
 intro n;induction n with
 | zero=>intro a b x y h hx hy;exact Jy h hx hy
 | succ n ih=>
  intro a b x y h hx hy;unfold Jw at h;split at h
  ·rename_i heq;exact aX heq (by simp)
  ·simp only [dR]at h
   have e1:=dE h.1;subst e1;rename_i m _ _ _ _ _ _ hn;injection hn with hn;subst hn;obtain⟨a1,c1,rfl,h1,h2⟩:=hx.aA8;obtain⟨a2,c2,rfl,h3,h4⟩:=hy.aA8;rw [Ac (ih) h.2.1 h1 h3,Ac (ih) h.2.2 h2 h4]
  ·exact Jy h hx hy
theorem Jz{U:Rn}{a b x y:Value} (h:aA7 a b=true) (hx:VR U a x) (hy:VR U b y):x=y:=aA9 3 h hx hy
theorem aBa{U:Rn}:∀{a b x y:List Value},Vg a b=true->lM U a x->lM U b y->x=y:=by
 intro a;induction a with
 | nil=>
  intro b x y h hx hy;cases b with
  | nil=>rw [hx.kS,hy.kS]
  | cons b l=>cases h
 | cons a l ih=>
  intro b x y h hx hy;cases b with
  | nil=>cases h
  | cons b m=>
   simp only [Vg,dR]at h;obtain⟨a',l',rfl,h1,h2⟩:=hx.dH;obtain⟨b',m',rfl,h3,h4⟩:=hy.dH;rw [Jz h.1 h1 h3,ih h.2 h2 h4]
theorem NM{U:Rn}{a b x y:Value} (h:Jx a b=true) (hx:VR U a x) (hy:VR U b y):x=y:=by
 unfold Jx at h;split at h
 ·obtain⟨x',rfl,h1⟩:=hx.ND
  obtain⟨y',rfl,h2⟩:=hy.ND;rw [Array.toList_inj.1 (aBa h h1 h2)]
 ·exact Jz h hx hy
theorem Xw{U:Rn}:∀{a b x y:List Value},Ib a b=true->lM U a x->lM U b y->x=y:=by
 intro a;induction a with
 | nil=>
  intro b x y h hx hy;cases b with
  | nil=>rw [hx.kS,hy.kS]
  | cons b l=>cases h
 | cons a l ih=>
  intro b x y h hx hy;cases b with
  | nil=>cases h
  | cons b m=>
   simp only [Ib,dR]at h;obtain⟨a',l',rfl,h1,h2⟩:=hx.dH;obtain⟨b',m',rfl,h3,h4⟩:=hy.dH;rw [NM h.1 h1 h3,ih h.2 h2 h4]
theorem aBb{U:Rn}{a b x y:Value} (h:TS a b=true) (hx:VR U a x) (hy:VR U b y):x=y:=by
 unfold TS at h;split at h
 ·obtain⟨x',rfl,h1⟩:=hx.PX
  obtain⟨y',rfl,h2⟩:=hy.PX;rw [Array.toList_inj.1 (Xw h h1 h2)]
 ·exact NM h hx hy
def neutral (P:Program) (o:Oper):Bool:=qR P o || DM o
def leaves (ops:Array Oper) (o:Oper) (p:Nat):Bool:=match ops[p]?,o.dst with
 | some q,some d=> !(q.looksAt ops).contains d&&q.dst != some d
 | _,_=>true
def FV (ops:Array Oper) (o:Oper):Bool:=match o.dst with | some d=> !(o.looksAt ops).contains d | none=>true
def jC (ops:Array Oper) (p:Nat):Bool:=match ops[p]? with | some q=>DM q&&q.dst.isSome | none=>false
def aHR (P:Program) (ops:Array Oper):Nat->Array Bool->List Nat->Option (List (Nat×List Nat))
 | 0,listed,_=>match Region.ready .any ops listed with | []=>some [] | _=>none
 | f+1,listed,taken=>
  match Region.ready .any ops listed with
  | []=>some []
  | rs=>match rs.find? (fun i=>match ops[i]? with | some o=>neutral P o | none=>false)with
   | some i=>match ops[i]? with
    | some o=>match Region.free .any ops listed i&&FV ops o&&taken.all (leaves ops o)&&(qR P o || jC ops i)with
     | true=>(aHR P ops f (listed.setIfInBounds i true) (i::taken)).map ((i,[]):: ·)
     | false=>none
    | none=>none
   | none=>match rs with
    | [i]=>match ops[i]? with
     | some o=>match taken.all (leaves ops o)with
      | true=>(aHR P ops f (listed.setIfInBounds i true) (taken.filter fun p=> !dep ops i p)).map ((i,(taken.filter fun p=> !dep ops i p).filter (jC ops)):: ·)
      | false=>none
     | none=>none
    | _=>none
def LC (ops:Array Oper):Bool:=ops.toList.all fun o=>match o.op with | .select .. | .defer _=>false | _=>true
def zC (E:Env) (ops:Array Oper) (A:bC) (S:St) (l:List Nat) (k:Bool):Bool:=
 gW (β:=Bool) k (fun i _ ih=>match ops[i]? with
  | some o=>match o.dst with
   | some d=>YJ A.tmps d fun u=>DC ops o A fun b=>fX b (AD E o A S fun v _=>match TS v u with | true=>ih | false=>false) (match u with | .tuple ⟨[]⟩=>ih | _=>false)
   | none=>false
  | none=>false) l
section sound
variable{E:Env}{w0:World}{ops:Array Oper}
theorem Ad (h:LC ops=true):Plain ops:=by
 intro j o ho
 have hm:o∈ops.toList:=by
  have:ops.toList[j]? =some o:=by simpa using ho
  exact CW this
 have:=List.all_eq_true.1 h o hm;constructor
 ·intro cs b e;rw [e]at this;cases this
 ·intro c e;rw [e]at this;cases this
theorem xQ{o:Oper}{p:Nat} (h:leaves ops o p=true){q:Oper} (hq:ops[p]? =some q):∀d,o.dst=some d->d∉q.looksAt ops/\q.dst≠some d:=by
 intro d hd;unfold leaves at h;rw [hq,hd]at h;simpa using h
theorem WL{o:Oper} (h:FV ops o=true):∀d,o.dst=some d->d∉o.looksAt ops:=by
 intro d hd;unfold FV at h;rw [hd]at h;simpa using h
end sound
section sound
variable{E:Env}{w0:World}{ops:Array Oper}
def Kn (P:Program) (ops:Array Oper) (a:Act) (w:World) (p:Nat×Value):Prop:=
 (∃o,ops[p.1]? =some o/\qR P o=true/\∀w,Yl P ops p.1 p.2 a w)\/(∃o d,ops[p.1]? =some o/\DM o=true/\Yl P ops p.1 p.2 a w/\o.dst=some d/\∀u,a.tmps.toList[d]? =some u->u=p.2)
theorem Kn.yl{P:Program}{a:Act}{w:World}{p:Nat×Value} (h:Kn P ops a w p):Yl P ops p.1 p.2 a w:=by
 rcases h with ⟨o,_,_,h⟩ | ⟨o,d,_,_,h,_⟩
 ·exact h w
 ·exact h
theorem uE{a:Act}{dst:Option Tmp}{v:Value}{d:Tmp} (h:dst≠some d):(a.put dst v).tmps.toList[d]? =a.tmps.toList[d]? :=by
 cases dst with
 | none=>rfl
 | some e=>
  have oJ:e≠d:=fun q=>h (by rw [q]);show(a.tmps.setIfInBounds e v).toList[d]? =_;rw [Bf,IE oJ]
theorem GW{a:Act}{v:Value}{d:Tmp}:∀u,(a.put (some d) v).tmps.toList[d]? =some u->u=v:=by
 intro u hu;have hu:(a.tmps.setIfInBounds d v).toList[d]? =some u:=hu;rw [Bf,List.getElem?_set_self']at hu;cases hx:a.tmps.toList[d]? with
 | none=>rw [hx]at hu;cases hu
 | some y=>rw [hx]at hu;simp at hu;exact hu.symm
theorem Ci{U:Rn}{A:bC}{a:Act}{S:St}{w:World} (hs:SR E.P w0 U A a S w):∀{l:List Nat} {k:Bool},zC E ops A S l k=true->(∀i∈l,jC ops i=true)->
 k=true/\∀i∈l,∃o d u',ops[i]? =some o/\o.dst=some d/\a.tmps.toList[d]? =some u'/\Yl E.P ops i u' a w:=by
 intro l;induction l with
 | nil=>intro k hk _;exact⟨hk,by simp⟩
 | cons i l ih=>
  intro k hk hl;unfold zC at hk;rw [bU]at hk;split at hk
  ·rename_i o ho
   split at hk
   ·rename_i d hd
    obtain⟨u,hu,hk⟩:=HJ hk;obtain⟨u',hu',hr⟩:=hs.act.tmps.get hu;have hk:=SC hs.act hk
    have aBc:DM o=true:=by
     have:=hl i (.head _);unfold jC at this;rw [ho]at this;simp only [dR]at this;exact this.1
    have xN:zC E ops A S l k=true/\Yl E.P ops i u' a w:=by
     cases hw:Region.wanted o (yielded ops a.tmps)with
     | true=>
      rw [hw]at hk;have hk:AD E o A S (fun v _=>match TS v u with | true=>zC E ops A S l k | false=>false)=true:=hk;obtain⟨v,v',hk,hv,fN⟩:=Ef hs.rel hs.act aBc hk;split at hk
      ·rename_i HH
       have:=aBb HH hv hr;subst this;exact⟨hk,o,ho,.inl ⟨hw,fN⟩⟩
      ·cases hk
     | false=>
      rw [hw]at hk;have hk:(match(generalizing:=false) u with | .tuple ⟨[]⟩=>zC E ops A S l k | _=>false)=true:=hk;split at hk
      ·obtain⟨x,rfl,hx⟩:=hr.PX
       have:x= #[]:=Array.toList_inj.1 (hx.kS);subst this;exact⟨hk,o,ho,.inr ⟨hw,rfl⟩⟩
      ·cases hk
    obtain⟨h1,h2⟩:=ih xN.1 fun j hj=>hl j (.tail _ hj);refine⟨h1,fun j hj=>?_⟩;cases hj with
    | head=>exact⟨o,d,u',ho,hd,hu',xN.2⟩
    | tail _ hj=>exact h2 j hj
   ·cases hk
  ·cases hk
end sound
def isTrue:Value->Bool
 | .bool b=>b
 | _=>false
def St.none (n:Nat):St:=⟨.leaf,n⟩
def Rn.globals (n:Nat):Rn:=fun i=>if i<n then some ⟨i,0,0,0⟩else none
theorem Rel.none{P:Program}{w:World} (hsz:P.globals.size<=w.heap.size):Rel P w (Rn.globals P.globals.size) (St.none P.globals.size) w:=by
 have xC:∀i,(St.none P.globals.size).obj i=Option.none:=fun i=>rfl
 have hr:∀i L,Rn.globals P.globals.size i=some L->i<P.globals.size/\L=⟨i,0,0,0⟩:=by
  intro i L h;unfold Rn.globals at h;split at h
  ·rename_i hi;injection h with h;exact⟨hi,h.symm⟩
  ·cases h
 have hf:∀{i o},(St.none P.globals.size).obj i=some o->False:=fun h=>nomatch (xC _).symm.trans h;refine⟨fun g hg=>⟨⟨g,0,0,0⟩,aJ hg,rfl,rfl⟩,fun i o h=>(hf h).elim,fun i hi=>?_,fun i o h=>(hf h).elim,fun i L h=>?_,fun i j a b L M _ h=>(hf h).elim,fun j vs e olds h=>(hf h).elim,?_⟩
 ·have:P.globals.size<=i:=hi
  unfold Rn.globals;rw [aG (by omega)]
 ·obtain⟨h1,rfl⟩:=hr i L h
  show i<_;omega
 ·exact⟨rfl,rfl,rfl,bR _,fun _ _=>rfl⟩
structure EvW where
 f:bC->(Value->Bool)->Bool
def AQ (x:Operand):EvW:=
 match x with
 | .tmp t=>⟨fun A k=>YJ A.tmps t k⟩
 | .const v=>match kM v with | true=>⟨fun _ k=>k v⟩ | false=>⟨fun _ _=>false⟩
 | .global g=>⟨fun A k=>match Nat.blt g A.g with | true=>k (.pointer (some ⟨g,0,none⟩)) | false=>false⟩
 | .func f=>⟨fun _ k=>k (.func (.func f) #[] #[])⟩
theorem kU (A:bC) (x:Operand) (k:Value->Bool):(AQ x).f A k=vM A x k:=by
 cases x with
 | const v=>unfold AQ vM;simp only;cases kM v<;>rfl
 | _=>rfl
structure aP4 where
 f:bC->(List Value->Bool)->Bool
def aCU (xs:List Operand):aP4:=gW (β:=aP4) ⟨fun _ k=>k []⟩ (fun x _ ih=>⟨fun A k=>(AQ x).f A fun v=>ih.f A fun vs=>k (v::vs)⟩) xs
theorem Eh (A:bC):∀(xs:List Operand) (k:List Value->Bool),(aCU xs).f A k=VP A xs k:=by
 intro xs;induction xs with
 | nil=>intro k;rfl
 | cons x xs ih=>
  intro k;show(AQ x).f A (fun v=>(aCU xs).f A fun vs=>k (v::vs))=vM A x fun v=>VP A xs fun vs=>k (v::vs);rw [kU]
  congr 1
  funext v
  exact ih _
structure aRU where
 f:bC->(Option Value->Bool)->Bool
def aLf (x:Option Operand):aRU:=match x with | none=>⟨fun _ k=>k none⟩ | some x=>⟨fun A k=>(AQ x).f A fun v=>k (some v)⟩
theorem aLg (A:bC) (x:Option Operand) (k:Option Value->Bool):(aLf x).f A k=Bz A x k:=by
 cases x with
 | none=>rfl
 | some x=>exact kU A x _
structure IbW where
 f:IntKind->Int->Int->(Value->Bool)->Bool
def aEy (op:BinOp):IbW:=
 match op with
 | .add=>⟨fun k x y K=>OV k (Int.add x y) K⟩
 | .sub=>⟨fun k x y K=>OV k (Int.sub x y) K⟩
 | .mul=>⟨fun k x y K=>OV k (Int.mul x y) K⟩
 | .eql=>⟨fun _ x y K=>oK (eqI x y) K⟩
 | .neq=>⟨fun _ x y K=>oK (!eqI x y) K⟩
 | .lss=>⟨fun _ x y K=>oK (ltI x y) K⟩
 | .leq=>⟨fun _ x y K=>oK (!ltI y x) K⟩
 | .gtr=>⟨fun _ x y K=>oK (ltI y x) K⟩
 | .geq=>⟨fun _ x y K=>oK (!ltI x y) K⟩
 | op=>⟨fun k x y K=>RK op k x y K⟩
theorem aCV (op:BinOp) (k:IntKind) (x y:Int) (K:Value->Bool):(aEy op).f k x y K=RK op k x y K:=by cases op<;>rfl
structure BnW where
 f:TypeId->Value->Value->(Value->Bool)->Bool
def aLh (P:Program) (op:BinOp):BnW:=
 match op with
 | .shl=>⟨fun t a b K=>By P .shl t a b K⟩
 | .shr=>⟨fun t a b K=>By P .shr t a b K⟩
 | op=>⟨fun t a b K=>match a,b with
  | .int k x,.int k' y=>match FM k k' with | true=>(aEy op).f k x y K | false=>false
  | a,b=>By P op t a b K⟩
theorem aEz (P:Program) (op:BinOp) (t:TypeId) (a b:Value) (K:Value->Bool):(aLh P op).f t a b K=By P op t a b K:=by
 cases op<;>first
  | rfl
  | (simp only [aLh]
     split
     ·rw [aCV];rfl
     ·rfl)
structure BiW where
 f:List TypeId->List Value->St->VK->Bool
def aBd (P:Program) (b:Builtin):BiW:=
 match b with
 | .append=>⟨fun ts args S K=>match args with | [s,x]=>RO P ts s x S K | _=>false⟩
 | .copy=>⟨fun ts args S K=>match args with | [d,s]=>Ux P ts d s S K | _=>false⟩
 | b=>⟨fun ts args S K=>oL P b ts args S K⟩
theorem aBe (P:Program) (b:Builtin) (ts:List TypeId) (args:List Value) (S:St) (K:VK):(aBd P b).f ts args S K=oL P b ts args S K:=by
 cases b<;>first
  | rfl
  | (match args with
     | []=>rfl
     | [_]=>rfl
     | [_,_]=>rfl
     | _::_::_::_=>rfl)
structure OpW where
 f:Env->bC->St->VK->Bool
def WM (P:Program) (c:Call):OpW:=
 match c.callee with
 | .builtin b=>⟨fun _ A S K=>(aCU c.args.toList).f A fun args=>(aBd P b).f c.argTypes.toList args S K⟩
 | .value f=>⟨fun E A S K=>(aCU c.args.toList).f A fun args=>(AQ f).f A fun f=>match f with
  | .func (.func g) first captured=>FL first.toList args fun l=>FL l captured.toList fun l=>E.call g l S K
  | .func (.yield l) first captured=>match first.toList,captured.toList with
   | [],[]=>E.round l args S K
   | _,_=>false
  | _=>false⟩
 | .invoke r m=>⟨fun E A S K=>(aCU c.args.toList).f A fun args=>(AQ r).f A fun v=>match v with
  | .iface t x=>match KT P t m with
   | some g=>E.call g (x::args) S K
   | none=>false
  | _=>false⟩
theorem DN (E:Env) (c:Call) (A:bC) (S:St) (K:VK):(WM E.P c).f E A S K=mX E A c S K:=by
 unfold WM mX;cases c.callee with
 | builtin b=>simp only [Eh,aBe]<;>rfl
 | value f=>simp only [Eh,kU]<;>rfl
 | invoke r m=>simp only [Eh,kU]<;>rfl
def opW (P:Program) (o:Oper):OpW:=
 match o.op with
 | .move x=>⟨fun _ A S K=>(AQ x).f A fun v=>K v S⟩
 | .assign x=>⟨fun _ A S K=>(AQ x).f A fun v=>K v S⟩
 | .load t a=>⟨fun _ A S K=>(AQ a).f A fun a=>PO P t a S K⟩
 | .store t a x=>⟨fun _ A S K=>(AQ a).f A fun a=>(AQ x).f A fun x=>Bx P t a x S fun S=>K undef S⟩
 | .pick c a b=>⟨fun _ A S K=>(AQ c).f A fun c=>(AQ a).f A fun a=>(AQ b).f A fun b=>match c with
  | .bool true=>K a S
  | .bool false=>K b S
  | _=>false⟩
 | .box t x=>⟨fun _ A S K=>(AQ x).f A fun v=>aAM t v S K⟩
 | .nilCheck x=>⟨fun _ A S K=>(AQ x).f A fun v=>match v with
  | .pointer (some a)=>K (.pointer (some a)) S
  | .func (.func f) a b=>K (.func (.func f) a b) S
  | .func (.yield f) a b=>K (.func (.yield f) a b) S
  | .func (.method s) ⟨[.iface t w]⟩ ⟨[]⟩=>match KT P t s with
   | some _=>K (.func (.method s) ⟨[.iface t w]⟩ ⟨[]⟩) S
   | none=>false
  | .iface t w=>K (.iface t w) S
  | _=>false⟩
 | .binOp op t x y _=>⟨fun _ A S K=>(AQ x).f A fun a=>(AQ y).f A fun b=>(aLh P op).f t a b fun v=>K v S⟩
 | .unOp op _ x=>⟨fun _ A S K=>(AQ x).f A fun a=>unK op a fun v=>K v S⟩
 | .convert s d x=>⟨fun _ A S K=>(AQ x).f A fun a=>Jn P s d a S K⟩
 | .slice t x lo hi mx=>match mx,hi with
  | some _,none=>⟨fun _ _ _ _=>false⟩
  | mx,hi=>⟨fun _ A S K=>(AQ x).f A fun x=>(aLf lo).f A fun lo=>(aLf hi).f A fun hi=>(aLf mx).f A fun mx=>uQ P t x lo hi mx S fun v=>K v S⟩
 | .fieldAddr s x f=>⟨fun _ A S K=>(AQ x).f A fun x=>FO P s x f fun v=>K v S⟩
 | .field t x f=>⟨fun _ A S K=>(AQ x).f A fun x=>VQ P t x f fun v=>K v S⟩
 | .indexAddr t x ix=>⟨fun _ A S K=>(AQ x).f A fun x=>(AQ ix).f A fun ix=>FN P t x ix fun v=>K v S⟩
 | .index t x ix=>⟨fun _ A S K=>(AQ x).f A fun x=>(AQ ix).f A fun ix=>Hu P t x ix fun v=>K v S⟩
 | .extract t i=>⟨fun _ A S K=>(AQ t).f A fun v=>match v with
  | .tuple vs=>ZG vs.toList i fun v=>K v S
  | _=>false⟩
 | .call c=>WM P c
 | _=>⟨fun E A S K=>AD E o A S K⟩
theorem FW (E:Env) (o:Oper) (A:bC) (S:St) (K:VK):(opW E.P o).f E A S K=AD E o A S K:=by
 unfold opW;split
 all_goals (rename_i h)
 all_goals first
  | rfl
  | (unfold AD;rw [h];simp only [kU,aEz,DN]<;>rfl)
  | (unfold AD;rw [h];simp only;split<;>first | rfl | (simp only [kU,aLg]<;>rfl))
abbrev KS:=bC->St->Bool
structure Pb where
 f:Env->bC->St->KS->Bool
def aN3 (d:Option Tmp) (v:Value) (A:bC) (k:bC->Bool):Bool:=
 match d with
 | some d=>uC v A.tmps d fun ts=>k ⟨ts,A.marks,A.g⟩
 | none=>k A
def aEA (P:Program) (o:Oper):Pb:=
 match o.dst with
 | some d=>⟨fun E A S k=>(opW P o).f E A S fun v S=>uC v A.tmps d fun ts=>k ⟨ts,A.marks,A.g⟩ S⟩
 | none=>⟨fun E A S k=>(opW P o).f E A S fun _ S=>k A S⟩
def aHS (o:Oper):Pb:=
 match o.dst with
 | some d=>⟨fun _ A S k=>uC undef A.tmps d fun ts=>k ⟨ts,A.marks,A.g⟩ S⟩
 | none=>⟨fun _ A S k=>k A S⟩
structure GdW where
 f:bC->(Bool->Bool)->Bool
def aBf (ops:Array Oper) (o:Oper):GdW:=
 match o.guard with
 | none=>⟨fun _ k=>k true⟩
 | some (j,want)=>match ops[j]? with
  | some o'=>match o'.dst with
   | some d=>⟨fun A k=>YJ A.tmps d fun v=>match v with
    | .bool b=>match b,want with | true,true | false,false=>k true | _,_=>k false
    | _=>k false⟩
   | none=>⟨fun _ k=>k false⟩
  | none=>⟨fun _ k=>k false⟩
def doW (P:Program) (ops:Array Oper) (o:Oper):Pb:=
 match o.guard with
 | none=>aEA P o
 | some _=>⟨fun E A S k=>(aBf ops o).f A fun b=>fX b ((aEA P o).f E A S k) ((aHS o).f E A S k)⟩
theorem aBg (E:Env) (o:Oper) (A:bC) (S:St) (k:KS):(aEA E.P o).f E A S k=AD E o A S fun v S=>mJ A o.dst v fun A=>k A S:=by
 unfold aEA mJ;cases o.dst<;>simp only [FW]
theorem aHT (E:Env) (o:Oper) (A:bC) (S:St) (k:KS):(aHS o).f E A S k=mJ A o.dst undef fun A=>k A S:=by
 unfold aHS mJ;cases o.dst<;>rfl
theorem aBh (ops:Array Oper) (o:Oper) (A:bC) (k:Bool->Bool):(aBf ops o).f A k=DC ops o A k:=by
 unfold aBf DC;cases o.guard with
 | none=>rfl
 | some jw=>
  obtain⟨j,want⟩:=jw;simp only;cases ops[j]? with
  | none=>rfl
  | some o'=>
   simp only;cases o'.dst<;>rfl
theorem aCW (E:Env) (ops:Array Oper) (o:Oper) (A:bC) (S:St) (k:KS):(doW E.P ops o).f E A S k=Ca E ops o A S k:=by
 unfold doW Ca;cases hg:o.guard with
 | none=>
  simp only [aBg];unfold DC;rw [hg];rfl
 | some _=>simp only [aBg,aHT,aBh]
def aN4 (P:Program) (ops:Array Oper) (l:List Oper):Pb:=
 gW (β:=Pb) ⟨fun _ A S k=>k A S⟩ (fun o _ ih=>⟨fun E A S k=>(doW P ops o).f E A S fun A S=>ih.f E A S k⟩) l
theorem aLi (E:Env) (ops:Array Oper):∀(l:List Oper) (A:bC) (S:St) (k:KS),(aN4 E.P ops l).f E A S k=ZH E ops l A S k:=by
 intro l;induction l with
 | nil=>intro A S k;rfl
 | cons o l ih=>
  intro A S k;show(doW E.P ops o).f E A S (fun A S=>(aN4 E.P ops l).f E A S k)=Ca E ops o A S fun A S=>ZH E ops l A S k;rw [aCW]
  congr 1
  funext A S
  exact ih A S k
structure ChW where
 f:Env->bC->St->Bool->Bool
def aCX (P:Program) (ops:Array Oper) (l:List Nat):ChW:=
 gW (β:=ChW) ⟨fun _ _ _ k=>k⟩ (fun i _ ih=>match ops[i]? with
  | some o=>match o.dst with
   | some d=>⟨fun E A S k=>YJ A.tmps d fun u=>(aBf ops o).f A fun b=>fX b ((opW P o).f E A S fun v _=>match TS v u with | true=>ih.f E A S k | false=>false) (match u with | .tuple ⟨[]⟩=>ih.f E A S k | _=>false)⟩
   | none=>⟨fun _ _ _ _=>false⟩
  | none=>⟨fun _ _ _ _=>false⟩) l
theorem aGb (P:Program) (ops:Array Oper) (i:Nat) (l:List Nat):aCX P ops (i::l)=match ops[i]? with
 | some o=>match o.dst with
  | some d=>⟨fun E A S k=>YJ A.tmps d fun u=>(aBf ops o).f A fun b=>fX b ((opW P o).f E A S fun v _=>match TS v u with | true=>(aCX P ops l).f E A S k | false=>false) (match u with | .tuple ⟨[]⟩=>(aCX P ops l).f E A S k | _=>false)⟩
  | none=>⟨fun _ _ _ _=>false⟩
 | none=>⟨fun _ _ _ _=>false⟩:=rfl
theorem Ic (E:Env) (ops:Array Oper) (A:bC) (S:St) (i:Nat) (l:List Nat) (k:Bool):zC E ops A S (i::l) k=match ops[i]? with
 | some o=>match o.dst with
  | some d=>YJ A.tmps d fun u=>DC ops o A fun b=>fX b (AD E o A S fun v _=>match TS v u with | true=>zC E ops A S l k | false=>false) (match u with | .tuple ⟨[]⟩=>zC E ops A S l k | _=>false)
  | none=>false
 | none=>false:=rfl
theorem aEB (E:Env) (ops:Array Oper) (A:bC) (S:St) (k:Bool):∀(l:List Nat),(aCX E.P ops l).f E A S k=zC E ops A S l k:=by
 intro l;induction l with
 | nil=>rfl
 | cons i l ih=>
  rw [aGb,Ic];cases ops[i]? with
  | none=>rfl
  | some o=>
   simp only;cases o.dst with
   | none=>rfl
   | some d=>simp only [FW,aBh,ih]<;>rfl
structure CdW where
 f:Env->Option Nat->bC->St->Cb->Bool
structure FnW where
 f:Env->List Value->St->VK->Bool
section aK
variable{P:Program}{w0:World}{U:Rn}{S:St}{w:World}
theorem Rel.Vi (h:Rel P w0 U S w) (o:iW) (L:Loc) (hlt:L.b<w.heap.size) (IV:∀i M,U i=some M->M.b≠L.b)
 (ho:∀U':Rn,Ext U U'->U' S.n=some L->IK P w0 U' w S.n o) (xC:o.olds=[]):
 Rel P w0 (U.put S.n L) (S.new o) w:=by
 have TO:=h.dom S.n (bR _);have he:Ext U (U.put S.n L):=Rn.RX TO
 have vO:∀j M,U.put S.n L j=some M->(j=S.n/\M=L)\/(j≠S.n/\U j=some M):=fun j M hj=>by
  unfold Rn.put at hj;by_cases e:j=S.n
  ·rw [aJ e]at hj;injection hj with hj;exact .inl ⟨e,hj.symm⟩
  ·rw [aG e]at hj;exact .inr ⟨e,hj⟩
 have uR:∀j x,(S.new o).obj j=some x->(j=S.n/\x=o)\/(j≠S.n/\S.obj j=some x):=fun j x hx=>by
  rw [YN]at hx;by_cases e:j=S.n
  ·rw [aJ e]at hx;injection hx with hx;exact .inl ⟨e,hx.symm⟩
  ·rw [aG e]at hx;exact .inr ⟨e,hx⟩
 refine⟨fun g hg=>let⟨M,h1,h2⟩:=h.Oi g hg;⟨M,he _ _ h1,h2⟩,fun j x hx=>?_,fun j hj=>?_,fun j x hx=>?_,fun j M hj=>?_,fun i j a b M N Tc ha hb hda hdb hM hN Sz=>?_,fun j vs e olds hj i hi=>?_,h.base⟩
 ·rcases uR j x hx with ⟨e,ex⟩ | ⟨e,hx⟩
  ·subst e ex;exact ho _ he (Rn.mK _ _ _)
  ·exact(h.OY j x hx).frame he fun M hM=>rfl
 ·have Xp:S.n+1<=j:=hj
  unfold Rn.put;rw [aG (by omega)];exact h.dom j (by omega)
 ·rcases uR j x hx with ⟨e,_⟩ | ⟨_,hx⟩
  ·subst e;exact xF _
  ·exact rZ (h.lt j x hx)
 ·rcases vO j M hj with ⟨_,e⟩ | ⟨_,hM⟩
  ·subst e;exact hlt
  ·exact h.loc j M hM
 ·rcases vO i M hM with ⟨ei,eM⟩ | ⟨ei,EU⟩<;>rcases vO j N hN with ⟨ej,eN⟩ | ⟨ej,hN'⟩
  ·omega
  ·rw [eM]at Sz;exact aX Sz.symm (IV j N hN')
  ·rw [eN]at Sz;exact aX Sz (IV i M EU)
  ·rcases uR i a ha with ⟨e,_⟩ | ⟨_,ha'⟩
   ·exact aX e ei
   ·rcases uR j b hb with ⟨e,_⟩ | ⟨_,TN⟩
    ·exact aX e ej
    ·exact h.sep i j a b M N Tc ha' TN hda hdb EU hN' Sz
 ·rcases uR j _ hj with ⟨e1,e2⟩ | ⟨e1,Xp⟩
  ·subst e2;rw [show olds=[]from xC]at hi;cases hi
  ·obtain⟨h1,h2⟩:=h.old j vs e olds Xp i hi
   refine⟨rZ h1,fun x hx=>?_⟩;rcases uR i x hx with ⟨e3,_⟩ | ⟨e3,Mo⟩
   ·omega
   ·rcases h2 x Mo with h3 | ⟨ws,e',h3,h4⟩
    ·exact .inl h3
    ·refine .inr ⟨ws,e',h3,fun L1 M hL1 hM hb=>?_⟩
     rcases vO _ _ hL1 with ⟨e4,_⟩ | ⟨_,aN1⟩
     ·exact aX e4 e1
     ·rcases vO _ _ hM with ⟨e5,_⟩ | ⟨_,EU⟩
      ·exact aX e5 e3
      ·exact h4 L1 M aN1 EU hb
theorem xM.Vi{U0:Rn}{wa:World} (h:xM U0 wa U w) (hn:U S.n=none){L:Loc} (hL:wa.heap.size<=L.b):xM U0 wa (U.put S.n L) w:=by
 refine⟨h.ext.trans (Rn.RX hn),h.fr,fun i M hi=>?_⟩;unfold Rn.put at hi;by_cases e:i=S.n
 ·rw [aJ e]at hi;injection hi with hi;subst hi;exact .inr (.inl hL)
 ·rw [aG e]at hi;exact h.nw i M hi
structure Mk (P:Program) (w0:World) (U:Rn) (S:St) (s:Sem Go.Next) (v:Value) (o:iW) (ob:Obj) (mk:Nat->Value):Prop where
 run:∀w,s.run P w= .ok (.value (mk w.heap.size)) (w.alloc ob)
 olds:o.olds=[]
 val:∀(U':Rn) (b:Nat),Ext U U'->(∃L,U' S.n=some L/\L.b=b/\L.s=0)->VR U' v (mk b)
 obj:∀(b:Nat),w0.heap.size<=b->∃L:Loc,L.b=b/\L.s=0/\∀(U':Rn) (w:World),Ext U U'->U' S.n=some L->w.heap[b]? =some ob->IK P w0 U' w S.n o
theorem Mk.cells{s:Sem Go.Next}{cs cs':List Value} (vX:lM U cs cs') (t:TypeId){v:Value}{mk:Nat->Value} (hr:∀w,s.run P w= .ok (.value (mk w.heap.size)) (w.alloc (.cells ⟨cs'⟩ t)))
 (hv:∀(U':Rn) (b:Nat),Ext U U'->(∃L,U' S.n=some L/\L.b=b/\L.s=0)->VR U' v (mk b)):Mk P w0 U S s v (.cells cs t .exact) (.cells ⟨cs'⟩ t) mk:=by
 refine⟨hr,rfl,hv,fun b hb=>⟨⟨b,0,cs'.length,0⟩,rfl,rfl,fun U' w he hU' hw=>⟨_,⟨cs'⟩,t,(0,0),hU',hw,fun j v hj=>?_,?_⟩⟩⟩
 ·obtain⟨v',PU,hr⟩:=vX.get hj
  exact⟨v',by simpa using PU,hr.mono he⟩
 ·exact⟨hb,rfl,vX.1.symm,fun x _ hx=>by simp at hx,rfl⟩
end aK
section mem
variable{P:Program}{w0:World}{U:Rn}{S:St}{w:World}
def JX (o:Oper):Bool:=match o.op with | .buildSlice .. | .box .. | .alloc _ | .makeSlice .. | .makeMap _ none=>true | _=>false
def WN (P:Program) (w0:World) (U:Rn) (S:St) (K:VK) (s:Sem Go.Next):Prop:=∃v o ob mk,K v (S.new o)=true/\Mk P w0 U S s v o ob mk
theorem WN.ptr{s:Sem Value}{K:VK}{cs cs':List Value}{t:TypeId} (vX:lM U cs cs') (hk:zB S (.cells cs t .exact) (fun i S=>K (.pointer (some ⟨i,0,none⟩)) S)=true)
 (hr:∀w,s.run P w= .ok (.pointer (some ⟨w.heap.size,0,none⟩)) (w.alloc (.cells ⟨cs'⟩ t))):WN P w0 U S K (do pure (.value (<-s))):=by
 rw [jB]at hk;refine⟨_,_,_,fun b=> .pointer (some ⟨b,0,none⟩),hk,Mk.cells vX t (fun w=>by rw [cP,hr];rfl) fun U' b _ ⟨L,hL,hb,hs⟩=> .aNI hL hb hs⟩
theorem WN.row{s:Sem Value}{K:VK}{cs cs':List Value}{t:TypeId}{n c:Nat} (vX:lM U cs cs') (hk:zB S (.cells cs t .exact) (fun i S=>K (.slice (some ⟨i,0,none⟩) n c) S)=true)
 (hr:∀w,s.run P w= .ok (.slice (some ⟨w.heap.size,0,none⟩) n c) (w.alloc (.cells ⟨cs'⟩ t))):WN P w0 U S K (do pure (.value (<-s))):=by
 rw [jB]at hk;refine⟨_,_,_,fun b=> .slice (some ⟨b,0,none⟩) n c,hk,Mk.cells vX t (fun w=>by rw [cP,hr];rfl) fun U' b _ ⟨L,hL,hb,hs⟩=> .Nz hL hb hs n c⟩
theorem WN.lost{s:Sem Value}{K:VK}{ob:Obj}{n c:Nat} (hk:zB S .dead (fun i S=>K (.slice (some ⟨i,0,none⟩) n c) S)=true)
 (hr:∀w,s.run P w= .ok (.slice (some ⟨w.heap.size,0,none⟩) n c) (w.alloc ob)):WN P w0 U S K (do pure (.value (<-s))):=by
 rw [jB]at hk;refine⟨_,_,_,fun b=> .slice (some ⟨b,0,none⟩) n c,hk,fun w=>by rw [cP,hr];rfl,rfl,fun U' b _ ⟨L,hL,hb,hs⟩=> .Nz hL hb hs n c,fun b _=>⟨⟨b,0,0,0⟩,rfl,rfl,fun _ _ _ _ _=>trivial⟩⟩
end mem
section mem
variable{P:Program}{w0:World}{U:Rn}{S:St}{w:World}
theorem aLj{t:TypeId}{x x':Value}{K:VK} (hk:aAM t x S K=true) (hx:VR U x x'):WN P w0 U S K (do pure (.value (<-Instr.box t x'))):=by
 unfold aAM at hk;obtain⟨cs,hk,_,vX,_⟩:=GS hk hx;exact WN.ptr vX hk fun w=>by simp [Instr.box,newVar,newRow]
theorem aGc{t:TypeId}{K:VK} (hk:VT P t S K=true):WN P w0 U S K (do pure (.value (<-Instr.alloc t true (.tuple #[])))):=by
 unfold VT at hk;split at hk
 ·rename_i zero hz
  split at hk
  ·rename_i Jq
   rw [aEv]at hk;have Uy:lM U zero zero:= .flat (by rw [mY]at Jq;exact List.all_eq_true.1 Jq);refine WN.ptr Uy hk fun w=>?_;obtain⟨zv,Hy,Sm⟩:=FQ hz w;have ez:zv.cells=⟨zero⟩:=Array.toList_inj.1 Sm;simp [Instr.alloc,Hy,newVar,newRow,ez]
  ·cases hk
 ·cases hk
theorem To{t:TypeId}{l l' c c':Value}{K:VK} (hk:xJ P t l c S K=true) (hl:VR U l l') (hc:VR U c c'):WN P w0 U S K (do pure (.value (<-Instr.makeSlice t l' c'))):=by
 unfold xJ at hk;split at hk
 ·rename_i k1 l k2 c
  rw [hl.of_flat rfl,hc.of_flat rfl];split at hk
  ·rename_i elem he
   have hu:=gE he;split at hk
   ·rename_i info zero hi hz
    split at hk
    ·rename_i q h1 h2 h3 h4 h5
     have h1:=cG h1;have h2:=cG h2;have h3:=cG h3;have h4:=dE h4;split at hk
     ·rename_i Jq
      obtain⟨zv,hzi,Sm⟩:=Oc hz hi;have oJ:zero≠[]:=by intro e;rw [e]at h4;simp at h4;omega
      have Xk:=PV zero zv.cells Sm c oJ
      have h2':(info.bytes:Int)*(c:Int)<=1099511627776:=by
       have:((info.bytes*c:Nat):Int)<=1099511627776:=by omega
       rwa [Int.natCast_mul]at this
      have hm:madeCells zv.cells (c*info.size)=⟨(List.replicate c zero).flatten⟩:=by rw [<-Xk,h4];rfl
      have hr:∀w,(Instr.makeSlice t (.int k1 (.ofNat l)) (.int k2 (.ofNat c))).run P w= .ok (.slice (some ⟨w.heap.size,0,none⟩) l c) (w.alloc (.cells ⟨(List.replicate c zero).flatten⟩ elem)):=fun w=>by
       have hr:=run_make (P:=P) w t elem info zv hu hi hzi k1 k2 l c (by omega) (by omega) (by omega) (by omega);simp only [Int.toNat_natCast]at hr;rw [hm]at hr;exact hr
      split at hk
      ·rw [GU]at hk
       have Uy:lM U zero zero:= .flat (by rw [mY]at Jq;exact List.all_eq_true.1 Jq);exact WN.row (Uy.flatten c) hk hr
      ·exact WN.lost hk hr
     ·cases hk
    ·cases hk
   ·cases hk
  ·cases hk
 ·cases hk
theorem Pc (h:Rel P w0 U S w){A:bC}{a:Act} (hA:BI P U A a){t:TypeId}{len:Nat}{parts:Array (Nat×Operand)}{K:VK} (hk:BY P A t len parts.toList S K=true):
 WN P w0 U S K (do pure (.value (<-Instr.buildSlice t len (parts.map fun p=>(p.1,a.eval p.2))))):=by
 unfold BY at hk;split at hk
 ·rename_i elem he
  have hu:=gE he;split at hk
  ·rename_i size zero hsz hz
   split at hk
   ·rename_i h1 h2
    have h1:=cG h1;have h2:=dE h2;split at hk
    ·rename_i Jq
     have Uy:lM U zero zero:= .flat (by rw [mY]at Jq;exact List.all_eq_true.1 Jq);rw [GU]at hk;obtain⟨ps,hk,VV⟩:=JU h hA hk;obtain⟨out,Sy,g1,g2,g3,_⟩:=NE (place':=fun i=>some (i*(size+1),size+1)) (cells':=⟨(List.replicate len zero).flatten⟩) (by intro i q hq;exact hq) hk VV (Uy.flatten len);refine WN.row g3 g1 fun w=>?_;obtain⟨zv,Hy,Sm⟩:=FQ hz w;have oJ:zero≠[]:=by intro e;rw [e]at h2;simp at h2
     have e2:(parts.map fun p=>(p.1,a.eval p.2)).toList=parts.toList.map fun p=>(p.1,a.eval p.2):=by simp
     have hc:¬len*(size+1)>2 ^ 24:=by omega
     by_cases h0:len*(size+1)=0
     ·have hl0:len=0:=by
       rcases Nat.mul_eq_zero.1 h0 with h0 | h0
       ·exact h0
       ·omega
      subst hl0;have e3:(⟨(List.replicate 0 zero).flatten⟩:Array Value)= #[]:=by simp
      rw [e3]at g2;have e4:∀f:Nat->Value,(Array.range 0).map f= #[]:=fun f=>by simp
      simp only [Instr.buildSlice,cP,run_underlying hu,eE,jA hsz,Bq,e4,e2,g2,newRow];rfl
     ·have Xk:=PV zero zv.cells Sm len oJ
      rw [h2]at Xk;simp only [Instr.buildSlice,cP,run_underlying hu,eE,jA hsz,aG hc,aG h0,Hy,kJ,Xk,e2,g2,newRow];rfl
    ·cases hk
   ·cases hk
  ·cases hk
 ·cases hk
theorem aBi{t:TypeId}{K:VK} (hk:zB S (.map [] 0) (fun i S=>K (.map (some i)) S)=true):WN P w0 U S K (do pure (.value (<-Instr.makeMap t none))):=by
 rw [jB]at hk;refine⟨_,.map [] 0,.map #[] 0,fun b=> .map (some b),hk,⟨fun w=>by simp [Instr.makeMap,newObj];rfl,rfl,fun U' b _ ⟨L,hL,hb,_⟩=>hb▸ .map hL,fun b hb=>⟨⟨b,0,0,0⟩,rfl,rfl,fun U' w he hU' hw=>⟨_,#[],hU',hb,hw,⟨rfl,by simp⟩⟩⟩⟩⟩
end mem
section ops
variable{E:Env}{w0:World}{U:Rn}{S:St}{w:World}
theorem Cj (h:Rel E.P w0 U S w){A:bC}{a:Act} (hA:BI E.P U A a){o:Oper} (hp:JX o=true){K:VK} (hk:AD E o A S K=true):WN E.P w0 U S K (execOp a.eval o):=by
 unfold AD at hk;unfold execOp;unfold JX at hp;split at hk<;>first | (cases hk;done) | skip
 all_goals (rename_i Ot;rw [Ot]at hp;first | (cases hp;done) | skip)
 all_goals (simp only [Ot])
 ·exact aGc hk
 ·obtain⟨x,hk,hx⟩:=aV h hA hk
  exact aLj hk hx
 ·exact Pc h hA hk
 ·exact aBi hk
 ·obtain⟨x,hk,hx⟩:=aV h hA hk
  obtain⟨y,hk,hy⟩:=aV h hA hk;exact To hk hx hy
end ops
namespace Tr
variable{α:Type}
def del:Tr α->Nat->Tr α
 | leaf,_=>leaf
 | node v l r,n=>if n=0 then node none l r else if n%2=1 then node v (l.del (n / 2)) r else node v l (r.del (n / 2-1))
end Tr
def aHU{α:Type} (t:Tr α) (n:Nat) (k:Tr α->Bool):Bool:=
 aPP (β:=Nat->(Tr α->Bool)->Bool) (fun _ k=>k .leaf) (fun v l r dl dr n k=>pL n (k (.node none l r)) fun p=>pL (Nat.mod p 2) (dl (Nat.div p 2) fun c=>k (.node v c r)) fun _=>dr (Nat.div p 2) fun c=>k (.node v l c)) t n k
theorem aEC{α:Type} (t:Tr α):∀(n:Nat) (k:Tr α->Bool),aHU t n k=k (t.del n):=by
 induction t with
 | leaf=>intro n k;rfl
 | node v l r il ir=>
  intro n k;cases n with
  | zero=>rfl
  | succ p=>
   show pL (p%2) (aHU l (p / 2) fun c=>k (.node v c r)) (fun _=>aHU r (p / 2) fun c=>k (.node v l c))=_;rw [il,ir];have aHV:p+1≠0:=by omega
   simp only [Tr.del,aG aHV];rcases Nat.mod_two_eq_zero_or_one p with h | h
   ·rw [h,aJ (by omega),show(p+1) / 2=p / 2 by omega];rfl
   ·rw [h,aG (by omega),show(p+1) / 2-1=p / 2 by omega];rfl
theorem Ei{α:Type} (t:Tr α):∀(n m:Nat),(t.del n).get m=if m=n then none else t.get m:=by
 induction t with
 | leaf=>intro n m;show none=_;split<;>rfl
 | node v l r il ir=>
  intro n m;by_cases h0:n=0
  ·subst h0
   by_cases hm:m=0<;>simp [Tr.del,Tr.get,hm]
  ·by_cases h1:n%2=1
   ·simp only [Tr.del,aG h0,aJ h1,Tr.get]
    by_cases hm:m=0
    ·subst hm;simp [aO h0]
    ·by_cases h2:m%2=1
     ·simp only [aG hm,aJ h2,il]
      by_cases e:m=n
      ·simp [e]
      ·rw [aG e,aG (by omega)]
     ·simp only [aG hm,aG h2]
      rw [aG (by omega)]
   ·simp only [Tr.del,aG h0,aG h1,Tr.get]
    by_cases hm:m=0
    ·subst hm;simp [aO h0]
    ·by_cases h2:m%2=1
     ·simp only [aG hm,aJ h2]
      rw [aG (by omega)]
     ·simp only [aG hm,aG h2,ir]
      by_cases e:m=n
      ·simp [e]
      ·rw [aG e,aG (by omega)]
def aHW (o:Oper):Bool:=match o.op with | .assign _=>true | _=>false
def Pd (P:Program) (o:Oper):Bool:=o.guard.isNone&&(o.dst.isSome&&((qR P o&& !aHW o) || JX o))
def Id (P:Program) (o:Oper):Option Tmp:=match o.op with
 | .convert s d (.tmp t)=>match P.underlying s,P.underlying d with
  | some (.slice e),some .string=>match P.underlying e with
   | some (.int .u8)=>some t
   | _=>none
  | _,_=>none
 | _=>none
def LD (o:Oper):Bool:=match o.op with | .makeSlice .. =>true | _=>false
def eV (P:Program) (ops:Array Oper) (i:Nat):Option Nat:=match ops[i]? with
 | some o=>match Id P o with
  | some t=>match o.guard.isNone&&o.dst.isSome with
   | true=>(List.range ops.size).find? fun j=>match ops[j]? with | some q=>LD q&&(q.guard.isNone&&(q.dst==some t&&dep ops i j)) | none=>false
   | false=>none
  | none=>none
 | none=>none
def IL (P:Program) (ops:Array Oper) (j:Nat):Bool:=(match ops[j]? with | some q=>LD q | none=>false)&&(List.range ops.size).any fun i=>eV P ops i==some j
def kZ (P:Program) (ops:Array Oper) (i:Nat):Bool:=match ops[i]? with | some o=>Pd P o || (eV P ops i).isSome | none=>false
def NN (ops:Array Oper) (t:Array Bool) (i:Nat):Bool:=match ops[i]? with
 | some o=> !(t.getD i true)&&o.after.toList.all fun e=> !Region.binds .any e || t.getD e.on false
 | none=>false
def LE (P:Program) (ops:Array Oper):List Nat->Array Bool->List Nat->Array Bool×List Nat
 | [],t,l=>(t,l)
 | i::is,t,l=>match kZ P ops i&&NN ops t i with
  | true=>LE P ops is (t.setIfInBounds i true) (l++[i])
  | false=>LE P ops is t l
def LF (P:Program) (ops:Array Oper) (_:Nat) (t:Array Bool) (l:List Nat):Array Bool×List Nat:=LE P ops (List.range ops.size) t l
def Xx (acc:List Nat) (o:Oper):Nat:=(o.after.toList.filter (Region.binds .any)).foldl (fun m e=>Nat.lor m (Nat.lor (Nat.shiftLeft 1 e.on) (acc.getD e.on 0))) 0
def Xy (ops:Array Oper):List Nat:=ops.toList.foldl (fun acc o=>acc++[Xx acc o]) []
def Ae (ops:Array Oper) (_ r i:Nat):Bool:=Nat.testBit ((Xy ops).getD r 0) i
inductive yT where
 | take (i:Nat)
 | Vj (BO:List Nat) (nB:List (Nat×List Nat)) (done:List Nat) (r:Nat) (FX:List Nat)
 | fin (BO:List Nat) (nB:List (Nat×List Nat)) (done:List Nat)
def uS (P:Program) (ops:Array Oper) (nB:List Nat) (d:Nat):List Nat:=(nB.filter fun i=>Ae ops ops.size d i).filter fun i=> !IL P ops i
def DO (ops:Array Oper) (d:Nat):Bool:=match ops[d]? with
 | some o=>(List.range ops.size).all fun j=>j==d || (match ops[j]? with
  | some q=>match q.dst with
   | some e=>o.dst != some e&&(!(o.looksAt ops).contains e || Ae ops ops.size d j)
   | none=>true
  | none=>true)
 | none=>false
def PY:List yT->List Nat
 | []=>[]
 | .take _::l=>PY l
 | .Vj _ p _ _ _::l=>p.map Prod.fst++PY l
 | .fin _ p _::l=>p.map Prod.fst++PY l
def IM (E:Env) (ops:Array Oper) (i:Nat) (o:Oper) (A:bC) (S:St) (K:VK):Bool:=match eV E.P ops i with
 | none=>AD E o A S K
 | some j=>match ops[j]? with
  | some q=>AD E q A S fun s S'=>match s with
   | .slice (some ⟨b,0,none⟩) _ _=>match Nat.beq b S.n with
    | true=>mJ A q.dst s fun A'=>AD E o A' S' fun v _=>match v with
     | .string _=>K v S
     | _=>false
    | false=>false
   | _=>false
  | none=>false
def nW (E:Env) (ops:Array Oper) (l:List Nat) (A:bC) (S:St) (k:bC->St->Bool):Bool:=
 gW (β:=bC->St->Bool) (fun A S=>k A S) (fun i _ ih A S=>match ops[i]? with
  | some o=>IM E ops i o A S fun v S=>mJ A o.dst v fun A=>ih A S
  | none=>false) l A S
def aCY (A:bC) (o:Oper) (k:Bool):Bool:=match o.dst with
 | some d=>fX (rE A.tmps.t d fun _=>true) false k
 | none=>false
def UV (E:Env) (ops:Array Oper) (A:bC) (S:St) (l:List (Nat×List Nat)) (k:Bool):Bool:=
 gW (β:=Bool) k (fun p _ ih=>match ops[p.1]? with
  | some o=>aCY A o (fX (nW E ops p.2 A S fun A S=>IM E ops p.1 o A S fun _ _=>true) ih false)
  | none=>false) l
def WO (ops:Array Oper) (l:List Nat) (A:bC) (k:bC->Bool):Bool:=
 gW (β:=bC->Bool) k (fun i _ ih A=>match ops[i]? with
  | some o=>match o.dst with
   | some d=>aHU A.tmps.t d fun t=>ih {A with tmps:=⟨t,A.tmps.n⟩}
   | none=>false
  | none=>false) l A
def mE (E:Env) (ops:Array Oper) (l:List yT) (A:bC) (S:St) (k:bC->St->Bool):Bool:=
 gW (β:=bC->St->Bool) (fun _ _=>false) (fun s _ ih A S=>match s with
  | .take i=>match ops[i]? with
   | some o=>Ca E ops o A S ih
   | none=>false
  | .Vj BO nB D r FX=>match ops[r]? with
   | some o=>zC E ops A S BO (UV E ops A S nB (nW E ops D A S fun A S=>Ca E ops o A S fun A S=>zC E ops A S FX (ih A S)))
   | none=>false
  | .fin BO nB D=>zC E ops A S BO (UV E ops A S nB (nW E ops D A S k))) l A S
theorem SH{P:Program}{U:Rn}{A:bC}{a:Act} (hA:BI P U A a){d:Tmp}{v v':Value} (hv:VR U v v') (ha:∀u,a.tmps.toList[d]? =some u->u=v'){k:bC->Bool} (hk:mJ A (some d) v k=true):
 ∃A',k A'=true/\BI P U A' a/\A'.marks=A.marks/\∀e,e≠d->A'.tmps.t.get e=A.tmps.t.get e:=by
 obtain⟨hd,hk⟩:=FT (show uC v A.tmps d (fun ts=>k ⟨ts,A.marks,A.g⟩)=true from hk);refine⟨_,hk,⟨?_,hA.g⟩,rfl,fun e he=>?_⟩
 ·have h1:=hA.tmps.set hd hv
  have hlt:d<a.tmps.toList.length:=by rw [<-hA.tmps.1];exact hd
  have h2:=ha _ (aQ hlt);have:a.tmps.toList.set d v'=a.tmps.toList:=by rw [<-h2];exact List.set_getElem_self hlt
  rw [this]at h1;exact h1
 ·show(A.tmps.t.put d v).get e=_
  rw [AP,aG he]
theorem Ka{P:Program}{o:Oper}{t:Tmp} (h:Id P o=some t):∃s d e,o.op= .convert s d (.tmp t)/\P.underlying s=some (.slice e)/\P.underlying d=some .string/\P.underlying e=some (.int .u8):=by
 unfold Id at h;split at h
 ·rename_i s d t' ho
  split at h
  ·rename_i e hs hd
   split at h
   ·rename_i he
    injection h with h;subst h;exact⟨s,d,e,ho,hs,hd,he⟩
   ·cases h
  ·cases h
 ·cases h
theorem nC{P:Program}{ops:Array Oper}{i j:Nat} (h:eV P ops i=some j):
 ∃o q t,ops[i]? =some o/\Id P o=some t/\o.guard=none/\(∃d,o.dst=some d)/\ops[j]? =some q/\LD q=true/\q.guard=none/\q.dst=some t/\dep ops i j=true:=by
 unfold eV at h;split at h
 ·rename_i o ho
  split at h
  ·rename_i t ht
   split at h
   ·rename_i hg
    have h1:=List.find?_some h;split at h1
    ·rename_i q hq
     simp only [dR,Option.isNone_iff_eq_none,beq_iff_eq,Option.isSome_iff_exists]at h1 hg;exact⟨o,q,t,ho,ht,hg.1,hg.2,hq,h1.1,h1.2.1,h1.2.2.1,h1.2.2.2⟩
    ·cases h1
   ·cases h
  ·cases h
 ·cases h
theorem Ej{o:Oper} (h:LD o=true):JX o=true:=by
 unfold LD at h;unfold JX;split at h
 ·rename_i h1;rw [h1]
 ·cases h
theorem Kb{P:Program}{o:Oper} (h:LD o=true):qR P o=false:=by
 unfold LD at h;unfold qR;split at h
 ·rename_i h1;rw [h1]
 ·cases h
theorem HK{P:Program}{o:Oper}{t:Tmp} (h:Id P o=some t):qR P o=false/\JX o=false/\DM o=false/\LD o=false:=by
 obtain⟨s,d,e,ho,_,hd,_⟩:=Ka h;refine⟨?_,?_,?_,?_⟩
 ·unfold qR;rw [ho];simp only [hd]
 ·unfold JX;rw [ho]
 ·unfold DM;rw [ho]
 ·unfold LD;rw [ho]
theorem aGd{P:Program}{ops:Array Oper}{j:Nat} (h:IL P ops j=true):∃q,ops[j]? =some q/\LD q=true:=by
 unfold IL at h;simp only [dR]at h;have h1:=h.1;split at h1
 ·rename_i q hq;exact⟨q,hq,h1⟩
 ·cases h1
theorem Ms{P:Program}{ops:Array Oper}{i j:Nat} (h:eV P ops i=some j):IL P ops j=true:=by
 obtain⟨o,q,t,ho,_,_,_,hq,hm,_⟩:=nC h;unfold IL;simp only [hq,hm,Hs];exact List.any_eq_true.2 ⟨i,List.mem_range.2 (Array.getElem?_eq_some_iff.1 ho).1,by simp [h]⟩
theorem aP5{E:Env}{w0:World}{U:Rn}{S:St}{w:World} (h:Rel E.P w0 U S w){A:bC}{a:Act} (hA:BI E.P U A a){o:Oper}{t:Tmp} (ho:Id E.P o=some t){b n c:Nat} (ht:A.tmps.t.get t=some (.slice (some ⟨b,0,none⟩) n c)){K:VK} (hk:AD E o A S K=true):
 ∃L v,U b=some L/\K v S=true/\bW v=true/\∀w':World,w'.heap[L.b]? =w.heap[L.b]? ->(execOp a.eval o).run E.P w'= .ok (.value v) w':=by
 obtain⟨sT,dT,e,Ot,hs,hd,he⟩:=Ka ho;unfold AD at hk;rw [Ot]at hk;simp only at hk;unfold vM at hk;simp only at hk;obtain⟨x,hx,hk⟩:=HJ hk;rw [ht]at hx;injection hx with hx;subst hx;obtain⟨x',Mo,hvr⟩:=hA.tmps.get ht
 have hev:a.eval (.tmp t)=x':=by
  show a.tmps.getD t undef=x';have h1:a.tmps[t]? =some x':=by rw [<-Mo];simp
  simp [h1]
 unfold Jn at hk;simp only [hs,hd,he]at hk;rcases hvr.mQ with ⟨L,c',hL,rfl,_⟩ | ⟨⟨_,h1⟩,_⟩
 ·obtain⟨vs,e',ck,hob,hle,hk⟩:=FR hk
  obtain⟨l',Sn,hlen,hc⟩:=h.KG hob hL hle;obtain⟨ns,hk,hns⟩:=Jr hk;rw [hns]at Sn;have aNJ:l'=ns.map (fun n=> .int .u8 (.ofNat n)):=Sn.aEw (by simp [bW]);refine⟨L,_,hL,hk,rfl,fun w' hw'=>?_⟩
  have hcell:∀q:Nat,w'.cell? ((⟨L.b,L.s+0,none⟩:Addr).add q)=w.cell? ((⟨L.b,L.s+0,none⟩:Addr).add q):=by
   intro q;have hbl:((⟨L.b,L.s+0,none⟩:Addr).add q).block=L.b:=by unfold Addr.add;split<;>rfl
   simp only [World.cell?,hbl,hw']
  unfold execOp;simp only [Ot,hev];rw [cP,run_convert_bytes_string w' sT dT e _ _ _ hs he hd];have RD:=run_loadCells (P:=E.P) (w:=w') ⟨L.b,L.s+0,none⟩ l' hlen (fun j v hj=>by rw [hcell];exact hc j v hj);rw [aNJ]at RD;have e1:(⟨ns.map (fun n=>Value.int .u8 (.ofNat n))⟩:Array Value)=((ns.map Int.ofNat).map (Value.int .u8)).toArray:=by simp [List.map_map,Function.comp_def]
  rw [e1]at RD;rw [run_bytesToString w' _ _ _ _ RD]
  have hf:∀(l:List Nat) (r:ByteArray),(l.map Int.ofNat).foldl (fun r (n:Int)=>r.push (UInt8.ofNat n.toNat)) r=⟨r.data++(l.map UInt8.ofNat).toArray⟩:=by
   intro l;induction l with
   | nil=>intro r;simp
   | cons b l ih=>intro r;simp only [Bp,Nr,ih];simp [ByteArray.push]
  rw [hf];have he0:ByteArray.empty.data= #[]:=rfl;rw [he0];simp
 ·cases h1
inductive EF (P:Program) (ops:Array Oper) (n0:Nat) (U:Rn) (a:Act) (w:World):Nat×Option Nat->Prop
 | pure {i:Nat} {o:Oper} {d:Tmp} {v':Value} (ho:ops[i]? =some o) (hd:o.dst=some d) (hp:qR P o=true) (ha:∀u,a.tmps.toList[d]? =some u->u=v') (hr:∀w',(execOp a.eval o).run P w'= .ok (.value v') w'):EF P ops n0 U a w (i,none)
 | mk {i:Nat} {o:Oper} {d:Tmp} {ob:Obj} {mkv:Nat->Value} {b:Nat} (ho:ops[i]? =some o) (hd:o.dst=some d) (hp:JX o=true) (ha:∀u,a.tmps.toList[d]? =some u->u=mkv b) (hr:∀w',(execOp a.eval o).run P w'= .ok (.value (mkv w'.heap.size)) (w'.alloc ob))
  (hb:n0<=b) (hw:w.heap[b]? =some ob) (hf:∀i L,U i=some L->L.b≠b):EF P ops n0 U a w (i,some b)
 | conv {i j:Nat} {o q:Oper} {d t:Tmp} {v':Value} {ob:Obj} {mkv:Nat->Value} {b:Nat} (ho:ops[i]? =some o) (hd:o.dst=some d) (hc:eV P ops i=some j) (hq:ops[j]? =some q) (hqd:q.dst=some t) (ha:∀u,a.tmps.toList[d]? =some u->u=v') (RE:∀u,a.tmps.toList[t]? =some u->u=mkv b)
  (hrq:∀w',(execOp a.eval q).run P w'= .ok (.value (mkv w'.heap.size)) (w'.alloc ob)) (hr:∀w':World,w'.heap[b]? =some ob->(execOp a.eval o).run P w'= .ok (.value v') w')
  (hb:n0<=b) (hw:w.heap[b]? =some ob) (hf:∀i L,U i=some L->L.b≠b):EF P ops n0 U a w (i,some b)
theorem Kc{P:Program}{U:Rn}{S:St}{w0:World}{s:Sem Go.Next}{v:Value}{o:iW}{ob ob':Obj}{mk mkv:Nat->Value} (M:Mk P w0 U S s v o ob mk) (hr:∀w',s.run P w'= .ok (.value (mkv w'.heap.size)) (w'.alloc ob')):ob=ob'/\mk=mkv:=by
 constructor
 ·have h1:=M.run w0
  rw [hr w0]at h1;injection h1 with h1 h2;have h3:(w0.heap.push ob')=(w0.heap.push ob):=iZ World.heap h2;have h4:(w0.heap.push ob')[w0.heap.size]? =(w0.heap.push ob)[w0.heap.size]? :=by rw [h3]
  simp at h4;exact h4.symm
 ·funext n
  have h1:=M.run {w0 with heap:=Array.replicate n ob};rw [hr]at h1;injection h1 with h1 h2;injection h1 with h1;simpa using h1.symm
section sound
variable{E:Env}{w0:World}{ops:Array Oper}
theorem EF.Vi{P:Program}{n0:Nat}{U:Rn}{a:Act}{w:World}{p:Nat×Option Nat} (h:EF P ops n0 U a w p){n:Nat}{L:Loc} (oJ:∀b,p.2=some b->b≠L.b):EF P ops n0 (U.put n L) a w p:=by
 have key:∀b,p.2=some b->(∀i M,U i=some M->M.b≠b)->∀i M,U.put n L i=some M->M.b≠b:=by
  intro b hb hf i M hi;unfold Rn.put at hi;split at hi
  ·injection hi with hi;subst hi;exact(oJ _ hb).symm
  ·exact hf i M hi
 cases h with
 | pure ho hd hp ha hr=>exact .pure ho hd hp ha hr
 | mk ho hd hp ha hr hb hw hf=>exact .mk ho hd hp ha hr hb hw (key _ rfl hf)
 | conv ho hd hc hq hqd ha RE hrq hr hb hw hf=>exact .conv ho hd hc hq hqd ha RE hrq hr hb hw (key _ rfl hf)
theorem aBj{U:Rn}{A:bC}{a:Act}{S:St}{w:World} (hs:SR E.P w0 U A a S w){i j:Nat}{o q:Oper}{t:Tmp}{ob:Obj}{mkv:Nat->Value}{b:Nat} (ho:ops[i]? =some o) (hc:eV E.P ops i=some j) (hq:ops[j]? =some q) (hqd:q.dst=some t)
 (RE:∀u,a.tmps.toList[t]? =some u->u=mkv b) (hrq:∀w',(execOp a.eval q).run E.P w'= .ok (.value (mkv w'.heap.size)) (w'.alloc ob)) (hb:w0.heap.size<=b) (hw:w.heap[b]? =some ob) (hf:∀i L,U i=some L->L.b≠b) {K:VK} (hk:IM E ops i o A S K=true):
 ∃v,K v S=true/\bW v=true/\∀w':World,w'.heap[b]? =some ob->(execOp a.eval o).run E.P w'= .ok (.value v) w':=by
 obtain⟨o2,q2,t2,BL,hco,_,_,Xz,hm,_,Ya,_⟩:=nC hc;rw [ho]at BL;injection BL with BL;subst BL;rw [hq]at Xz;injection Xz with Xz;subst Xz;rw [hqd]at Ya;injection Ya with Ya;subst Ya;unfold IM at hk;simp only [hc,hq]at hk;obtain⟨s,obj,ob',mk',hk,M⟩:=Cj hs.rel hs.act (Ej hm) hk;obtain⟨rfl,rfl⟩:=Kc M hrq;dsimp only at hk;split at hk
 ·rename_i bb n c
  split at hk
  ·rename_i hbb
   obtain rfl:bb=S.n:=by
    have:=dE hbb;exact this
   have hlt:b<w.heap.size:=(Array.getElem?_eq_some_iff.1 hw).1;obtain⟨L,hL,hLs,uR⟩:=M.obj b hb;have TO:=hs.rel.dom S.n (bR _);have aAX:Ext U (U.put S.n L):=Rn.RX TO;have hrel:=hs.rel.Vi obj L (by omega) (fun i N hi=>by rw [hL];exact hf i N hi) (fun U' he hU'=>uR U' w he hU' hw) M.olds;rw [hqd]at hk;obtain⟨aP6,hk⟩:=FT (show uC _ A.tmps t (fun ts=>AD E o ⟨ts,A.marks,A.g⟩ (S.new obj) _)=true from hk)
   have hA':BI E.P (U.put S.n L) ⟨A.tmps.put t (.slice (some ⟨S.n,0,none⟩) n c),A.marks,A.g⟩ a:=by
    have hA0:=hs.act.mono aAX;refine⟨?_,hA0.g⟩;have h1:=hA0.tmps.set aP6 (M.val _ b aAX ⟨L,Rn.mK _ _ _,hL,hLs⟩);have aHX:t<a.tmps.toList.length:=by rw [<-hA0.tmps.1];exact aP6
    have h2:=RE _ (aQ aHX);have:a.tmps.toList.set t (mk' b)=a.tmps.toList:=by rw [<-h2];exact List.set_getElem_self aHX
    rw [this]at h1;exact h1
   obtain⟨L2,v,hL2,hkv,RQ,fN⟩:=aP5 hrel hA' hco (b:=S.n) (n:=n) (c:=c) (by show(A.tmps.t.put t _).get t=_;rw [AP,aJ rfl]) hk;rw [Rn.mK]at hL2;injection hL2 with hL2;subst hL2;split at hkv
   ·refine⟨_,hkv,RQ,fun w' hw'=>fN w' ?_⟩
    rw [hL,hw',hw]
   ·cases hkv
  ·cases hk
 ·cases hk
theorem SI{U0:Rn}{wa:World}{a:Act}{w:World} (Hj:w0.heap.size<=wa.heap.size){k:bC->St->Bool}:∀(l:List Nat) {U:Rn} {A:bC} {S:St} {X:List (Nat×Option Nat)},nW E ops l A S k=true->
 SR E.P w0 U A a S w->xM U0 wa U w->(∀i∈l,∃p∈X,p.1=i)->(∀i∈l,IL E.P ops i=false)->(∀p∈X,EF E.P ops wa.heap.size U a w p)->(∀p∈X,∀q∈X,∀b,p.2=some b->q.2=some b->IL E.P ops p.1=false->eV E.P ops p.1=none->p=q)->l.Nodup->
 ∃U' A' S',k A' S'=true/\SR E.P w0 U' A' a S' w/\xM U0 wa U' w/\(∀p∈X,p.1∉l->EF E.P ops wa.heap.size U' a w p)/\∀d,(∀i∈l,∀o,ops[i]? =some o->o.dst≠some d)->A'.tmps.t.get d=A.tmps.t.get d:=by
 intro l;induction l with
 | nil=>intro U A S X hk hs WG _ _ hX _ _;exact⟨U,A,S,hk,hs,WG,fun p hp _=>hX p hp,fun _ _=>rfl⟩
 | cons i l ih=>
  intro U A S X hk hs WG hl hgl hX aGe hnd;unfold nW at hk;rw [bU]at hk;obtain⟨⟨i',ob⟩,hpX,rfl⟩:=hl i (.head _);have hef:=hX _ hpX;have hng:=hgl i' (.head _);have aP7:=List.nodup_cons.1 hnd
  have fin:∀{U1:Rn} {A1:bC} {S1:St} {d:Tmp} {o:Oper},ops[i']? =some o->o.dst=some d->nW E ops l A1 S1 k=true->SR E.P w0 U1 A1 a S1 w->xM U0 wa U1 w->(∀p∈X,p.1≠i'->EF E.P ops wa.heap.size U1 a w p)->(∀e,e≠d->A1.tmps.t.get e=A.tmps.t.get e)->
   ∃U' A' S',k A' S'=true/\SR E.P w0 U' A' a S' w/\xM U0 wa U' w/\(∀p∈X,p.1∉i'::l->EF E.P ops wa.heap.size U' a w p)/\∀d,(∀j∈i'::l,∀o,ops[j]? =some o->o.dst≠some d)->A'.tmps.t.get d=A.tmps.t.get d:=by
   intro U1 A1 S1 d o ho hd Yb xB aP8 hX1 hA1
   obtain⟨U',A',S',g1,g2,g3,g4,g5⟩:=ih (X:=X.filter fun p=>p.1 != i') Yb xB aP8 (fun j hj=>by
    obtain⟨p,hp,he⟩:=hl j (.tail _ hj);refine⟨p,List.mem_filter.2 ⟨hp,?_⟩,he⟩;have:p.1≠i':=by rw [he];intro e;subst e;exact aP7.1 hj
    simpa using this) (fun j hj=>hgl j (.tail _ hj)) (fun p hp=>by
    obtain⟨h1,h2⟩:=List.mem_filter.1 hp;exact hX1 p h1 (by simpa using h2)) (fun p hp q hq=>aGe p (List.mem_filter.1 hp).1 q (List.mem_filter.1 hq).1) aP7.2
   refine⟨U',A',S',g1,g2,g3,fun p hp hn=>g4 p (List.mem_filter.2 ⟨hp,?_⟩) (fun h=>hn (.tail _ h)),fun e he=>?_⟩
   ·have:p.1≠i':=fun h=>hn (by rw [h];exact .head _)
    simpa using this
   ·rw [g5 e (fun j hj=>he j (.tail _ hj)),hA1 e (fun h=>he i' (.head _) o ho (by rw [hd,h]))]
  have plain:∀{o:Oper},ops[i']? =some o->eV E.P ops i'=none->IM E ops i' o A S (fun v S=>mJ A o.dst v fun A=>nW E ops l A S k)=true->AD E o A S (fun v S=>mJ A o.dst v fun A=>nW E ops l A S k)=true:=by
   intro o ho hcn hk;unfold IM at hk;rw [hcn]at hk;exact hk
  cases hef with
  | @pure _ o d v' ho hd hp ha hr=>
   simp only [ho]at hk
   have hcn:eV E.P ops i'=none:=by
    cases h:eV E.P ops i' with
    | none=>rfl
    | some j=>
     obtain⟨o2,_,t,BL,hco,_⟩:=nC h;rw [ho]at BL;injection BL with BL;subst BL;rw [(HK hco).1]at hp;cases hp
   have hk:AD E o A S (fun v S=>mJ A o.dst v fun A=>nW E ops l A S k)=true:=plain ho hcn hk;obtain⟨v,v'',hk,hv,fN⟩:=SG hs.rel hs.act hp hk
   have he:v''=v':=by
    have:=fN w;rw [hr w]at this;injection this with h1 _;injection h1 with h1;exact h1.symm
   subst he;rw [hd]at hk;obtain⟨A',hk,hA',hm,hg⟩:=SH hs.act hv ha hk;exact fin ho hd hk ⟨hA',hs.rel,by rw [hm];exact hs.marks⟩ WG (fun p hp _=>hX p hp) hg
  | @conv _ j o q d t v' ob mkv b ho hd hc hq hqd ha RE hrq hr hb hw hf=>
   simp only [ho]at hk;have hk:IM E ops i' o A S (fun v S=>mJ A o.dst v fun A=>nW E ops l A S k)=true:=hk;obtain⟨v,hk,RQ,fN⟩:=aBj hs ho hc hq hqd RE hrq (zA Hj hb) hw hf hk
   have he:v=v':=by
    have:=fN w hw;rw [hr w hw]at this;injection this with h1 _;injection h1 with h1;exact h1.symm
   subst he;rw [hd]at hk;obtain⟨A',hk,hA',hm,hg⟩:=SH hs.act (.flat RQ) ha hk;exact fin ho hd hk ⟨hA',hs.rel,by rw [hm];exact hs.marks⟩ WG (fun p hp _=>hX p hp) hg
  | @mk _ o d ob mkv b ho hd hp ha hr hb hw hf=>
   simp only [ho]at hk
   have hcn:eV E.P ops i'=none:=by
    cases h:eV E.P ops i' with
    | none=>rfl
    | some j=>
     obtain⟨o2,_,t,BL,hco,_⟩:=nC h;rw [ho]at BL;injection BL with BL;subst BL;rw [(HK hco).2.1]at hp;cases hp
   have hk:AD E o A S (fun v S=>mJ A o.dst v fun A=>nW E ops l A S k)=true:=plain ho hcn hk;obtain⟨v,obj,ob',mk',hk,M⟩:=Cj hs.rel hs.act hp hk;obtain⟨rfl,rfl⟩:=Kc M hr;have hlt:b<w.heap.size:=(Array.getElem?_eq_some_iff.1 hw).1;obtain⟨L,hL,hLs,uR⟩:=M.obj b (zA Hj hb);have TO:=hs.rel.dom S.n (bR _);have aAX:Ext U (U.put S.n L):=Rn.RX TO;have hrel:=hs.rel.Vi obj L (by omega) (fun i N hi=>by rw [hL];exact hf i N hi) (fun U' he hU'=>uR U' w he hU' hw) M.olds;have aP9:=WG.Vi (S:=S) TO (L:=L) (by omega);rw [hd]at hk;obtain⟨A',hk,hA',hm,hg⟩:=SH (hs.act.mono aAX) (M.val _ b aAX ⟨L,Rn.mK _ _ _,hL,hLs⟩) ha hk;refine fin ho hd hk ⟨hA',hrel,by rw [hm];exact hs.marks.mono aAX⟩ aP9 (fun p hp oJ=>(hX p hp).Vi fun b' TN h=>?_) hg;have:=aGe _ hpX p hp b' (by rw [h,hL]) TN hng hcn;rw [<-this]at oJ;exact oJ rfl
end sound
def On (t:Array Bool) (j:Nat):Prop:=t.getD j false=true
theorem On.lt{t:Array Bool}{j:Nat} (h:On t j):j<t.size:=by
 unfold On at h;rcases BF j t.size with h' | h'
 ·exact h'
 ·simp [h']at h
theorem Pe{t:Array Bool}{j:Nat}:t.getD j true=false↔j<t.size/\¬On t j:=by
 unfold On;rcases BF j t.size with h | h
 ·simp [h]
 ·simp [h]
theorem On.set{t:Array Bool}{i j:Nat} (hi:i<t.size):On (t.setIfInBounds i true) j↔On t j\/j=i:=by
 unfold On;by_cases e:j=i
 ·subst e;simp [hi]
 ·have h1:(t.setIfInBounds i true)[j]? =t[j]? :=by rw [aCH (aO e)]
  simp [e,h1]
section aRV
variable{P:Program}{ops:Array Oper}
def TT (ops:Array Oper) (j e:Nat):Prop:=∃o,ops[j]? =some o/\∃x∈o.after,Region.binds .any x=true/\x.on=e
theorem kN{j:Nat}{t:Array Bool}:j∈Region.ready .any ops t↔(j<t.size/\¬On t j)/\j<ops.size/\∀e,TT ops j e->On t e:=by
 rw [mem_ready,Pe];constructor
 ·rintro⟨h1,o,ho,h2⟩
  refine⟨h1,(Array.getElem?_eq_some_iff.1 ho).1,?_⟩
  rintro e ⟨o',WH,x,hx,hb,rfl⟩
  rw [ho]at WH;injection WH with WH;subst WH;exact h2 x hx hb
 ·rintro⟨h1,h2,h3⟩
  exact⟨h1,_,Hl h2,fun x hx hb=>h3 _ ⟨_,Hl h2,x,hx,hb,rfl⟩⟩
theorem aEE{j e:Nat}:dep ops j e=true↔TT ops j e:=by
 unfold dep TT;cases h:ops[j]? with
 | none=>simp
 | some o=>
  simp only [Array.any_eq_true'];constructor
  ·rintro⟨x,hx,hb⟩
   simp only [dR,beq_iff_eq]at hb;exact⟨o,rfl,x,hx,hb.1,hb.2⟩
  ·rintro⟨o',WH,x,hx,hb,he⟩
   injection WH with WH;subst WH;exact⟨x,hx,by simp [hb,he]⟩
def CC (ops:Array Oper) (t:Array Bool):List Nat->List Nat->Prop
 | _,[]=>True
 | pre,d::l=>(∀e,TT ops d e->On t e\/e∈pre)/\CC ops t (d::pre) l
theorem CC.mono{t:Array Bool}:∀{l pre pre':List Nat},CC ops t pre l->(∀e∈pre,e∈pre')->CC ops t pre' l:=by
 intro l;induction l with
 | nil=>intro _ _ _ _;trivial
 | cons d l ih=>
  intro pre pre' h hs;refine⟨fun e he=>(h.1 e he).imp id (hs e),ih h.2 fun e he=>?_⟩;rcases List.mem_cons.1 he with rfl | he
  ·exact .head _
  ·exact .tail _ (hs e he)
theorem CC.step{t:Array Bool}{i:Nat} (hi:i<t.size):∀{l pre:List Nat},CC ops (t.setIfInBounds i true) pre l->CC ops t (i::pre) l:=by
 intro l;induction l with
 | nil=>intro _ _;trivial
 | cons d l ih=>
  intro pre h;refine⟨fun e he=>?_,(ih h.2).mono fun e he=>?_⟩
  ·rcases h.1 e he with h1 | h1
   ·rcases(On.set hi).1 h1 with h1 | h1
    ·exact .inl h1
    ·subst h1;exact .inr (.head _)
   ·exact .inr (.tail _ h1)
  ·simp only [List.mem_cons]at he ⊢
   rcases he with h | h | h
   ·exact .inr (.inl h)
   ·exact .inl h
   ·exact .inr (.inr h)
theorem WP{t:Array Bool}{i:Nat}:NN ops t i=true↔i∈Region.ready .any ops t:=by
 rw [kN];unfold NN;cases ho:ops[i]? with
 | none=>
  simp only [Ho,false_iff]
  rintro⟨_,h2,_⟩
  have:=Array.getElem?_eq_none_iff.1 ho;omega
 | some o=>
  have hlt:=(Array.getElem?_eq_some_iff.1 ho).1;simp only [dR,KN,KO,VL];constructor
  ·rintro⟨h1,h2⟩
   refine⟨Pe.1 h1,hlt,?_⟩
   rintro e ⟨o',WH,x,hx,hb,rfl⟩
   rw [ho]at WH;injection WH with WH;subst WH;rcases h2 x (by simpa using hx)with h3 | h3
   ·rw [hb]at h3;cases h3
   ·exact h3
  ·rintro⟨h1,_,h3⟩
   refine⟨Pe.2 h1,fun x hx=>?_⟩;cases hb:Region.binds .any x with
   | false=>exact .inl rfl
   | true=>exact .inr (h3 _ ⟨o,ho,x,by simpa using hx,hb,rfl⟩)
theorem aBk:∀(is:List Nat) (t:Array Bool) (l:List Nat) {c:Array Bool×List Nat},LE P ops is t l=c->
 ∃m,c.2=l++m/\c.1.size=t.size/\(∀j,On c.1 j↔On t j\/j∈m)/\(∀i∈m,kZ P ops i=true/\i<t.size/\¬On t i)/\m.Nodup/\CC ops t [] m:=by
 intro is;induction is with
 | nil=>intro t l c h;subst h;exact⟨[],by simp [LE],rfl,by simp [LE],by simp,.nil,trivial⟩
 | cons i is ih=>
  intro t l c h;unfold LE at h;split at h
  ·rename_i hb
   rw [dR]at hb;obtain⟨DP,hrd⟩:=hb;obtain⟨⟨hi,hun⟩,_,hw⟩:=kN.1 (WP.1 hrd);obtain⟨m,h1,h2,h3,h4,h5,h6⟩:=ih _ _ h;have hs:(t.setIfInBounds i true).size=t.size:=Array.size_setIfInBounds;refine⟨i::m,by rw [h1];simp,h2.trans hs,fun j=>?_,fun j hj=>?_,List.nodup_cons.2 ⟨fun him=>?_,h5⟩,fun e he=> .inl (hw e he),h6.step hi⟩
   ·rw [h3,On.set hi,List.mem_cons]
    constructor
    ·rintro((h | h) | h)
     ·exact .inl h
     ·exact .inr (.inl h)
     ·exact .inr (.inr h)
    ·rintro(h | h | h)
     ·exact .inl (.inl h)
     ·exact .inl (.inr h)
     ·exact .inr h
   ·rcases List.mem_cons.1 hj with rfl | hj
    ·exact⟨DP,hi,hun⟩
    ·obtain⟨g1,g2,g3⟩:=h4 j hj
     exact⟨g1,by rw [hs]at g2;exact g2,fun h=>g3 ((On.set hi).2 (.inl h))⟩
   ·exact(h4 i him).2.2 ((On.set hi).2 (.inr rfl))
  ·exact ih t l h
theorem CD (f:Nat) (t:Array Bool) (l:List Nat){c:Array Bool×List Nat} (h:LF P ops f t l=c):
 ∃m,c.2=l++m/\c.1.size=t.size/\(∀j,On c.1 j↔On t j\/j∈m)/\(∀i∈m,kZ P ops i=true/\i<t.size/\¬On t i)/\m.Nodup/\CC ops t [] m:=aBk _ t l h
theorem CC.snoc{t:Array Bool}{d:Nat}:∀{l pre:List Nat},CC ops t pre l->(∀e,TT ops d e->On t e\/e∈pre\/e∈l)->CC ops t pre (l++[d]):=by
 intro l;induction l with
 | nil=>intro pre _ hd;exact⟨fun e he=>(hd e he).imp id fun h=>h.elim id (fun h=>by cases h),trivial⟩
 | cons i l ih=>
  intro pre h hd;refine⟨h.1,ih h.2 fun e he=>?_⟩;rcases hd e he with h1 | h1 | h1
  ·exact .inl h1
  ·exact .inr (.inl (.tail _ h1))
  ·rcases List.mem_cons.1 h1 with rfl | h1
   ·exact .inr (.inl (.head _))
   ·exact .inr (.inr h1)
theorem CC.filter{t t2:Array Bool}{q:Nat->Bool} (ht:∀e,On t e->On t2 e):∀{l pre pre2:List Nat},CC ops t pre l->(∀e∈pre,On t2 e\/e∈pre2)->(∀e∈l,q e=false->On t2 e)->CC ops t2 pre2 (l.filter q):=by
 intro l;induction l with
 | nil=>intro _ _ _ _ _;trivial
 | cons i l ih=>
  intro pre pre2 h hp hl;cases hq:q i with
  | true=>
   rw [List.filter_cons_of_pos hq];refine⟨fun e he=>(h.1 e he).elim (fun h=> .inl (ht e h)) (hp e),ih h.2 (fun e he=>?_) fun e he=>hl e (.tail _ he)⟩;rcases List.mem_cons.1 he with rfl | he
   ·exact .inr (.head _)
   ·exact(hp e he).imp id (.tail _)
  | false=>
   rw [List.filter_cons_of_neg (by simp [hq])];refine ih h.2 (fun e he=>?_) fun e he=>hl e (.tail _ he);rcases List.mem_cons.1 he with rfl | he
   ·exact .inl (hl _ (.head _) hq)
   ·exact hp e he
theorem CC.ready{t t':Array Bool} (hsz:t'.size=ops.size) (aN5:∀j,On t j->On t' j):∀{l pre:List Nat},CC ops t pre l->(∀e∈pre,On t' e)->(∀i∈l,i<ops.size)->(∃i∈l,¬On t' i)->∃i∈l,i∈Region.ready .any ops t':=by
 intro l;induction l with
 | nil=>rintro _ _ _ _ ⟨i,hi,_⟩;cases hi
 | cons d l ih=>
  rintro pre h Pf hlt ⟨i,hi,hn⟩
  by_cases hd:On t' d
  ·have Ce:i∈l:=by
    rcases List.mem_cons.1 hi with rfl | h'
    ·exact aX hd hn
    ·exact h'
   obtain⟨j,hj,hr⟩:=ih h.2 (fun e he=>by
    rcases List.mem_cons.1 he with rfl | he
    ·exact hd
    ·exact Pf e he) (fun i hi=>hlt i (.tail _ hi)) ⟨i,Ce,hn⟩
   exact⟨j,.tail _ hj,hr⟩
  ·have hds:=hlt d (.head _)
   exact⟨d,.head _,kN.2 ⟨⟨by omega,hd⟩,hds,fun e he=>(h.1 e he).elim (aN5 e) (Pf e)⟩⟩
def Down (ops:Array Oper) (t:Array Bool):Prop:=∀j,On t j->∀e,TT ops j e->On t e
theorem Down.set{t:Array Bool} (h:Down ops t){i:Nat} (hr:i∈Region.ready .any ops t):Down ops (t.setIfInBounds i true):=by
 obtain⟨⟨hi,_⟩,_,hw⟩:=kN.1 hr;intro j hj e he;rcases(On.set hi).1 hj with hj | rfl
 ·exact(On.set hi).2 (.inl (h j hj e he))
 ·exact(On.set hi).2 (.inl (hw e he))
def Yd (ops:Array Oper) (t:Array Bool) (acc:List Nat):Prop:=∀r m,acc[r]? =some m->(∀e,TT ops r e->On t e)->∀i,Nat.testBit m i=true->On t i
theorem aGg{t:Array Bool}{acc:List Nat} (h:Down ops t) (aGh:Yd ops t acc){r:Nat}{o:Oper} (ho:ops[r]? =some o) (hr:∀e,TT ops r e->On t e){i:Nat} (hi:Nat.testBit (Xx acc o) i=true):On t i:=by
 unfold Xx at hi
 have key:∀(l:List Edge) (m:Nat),(∀e∈l,e∈o.after/\Region.binds .any e=true)->(Nat.testBit m i=true->On t i)->
  Nat.testBit (l.foldl (fun m e=>Nat.lor m (Nat.lor (Nat.shiftLeft 1 e.on) (acc.getD e.on 0))) m) i=true->On t i:=by
  intro l;induction l with
  | nil=>intro m _ hm hi;exact hm hi
  | cons e l ih=>
   intro m hl hm hi;refine ih _ (fun x hx=>hl x (.tail _ hx)) (fun hb=>?_) hi;have hb:Nat.testBit (m ||| (1 <<< e.on ||| acc.getD e.on 0)) i=true:=hb;obtain⟨h1,h2⟩:=hl e (.head _);have ZJ:On t e.on:=hr _ ⟨o,ho,e,h1,h2,rfl⟩;simp only [Nat.testBit_or,VL]at hb;rcases hb with hb | hb | hb
   ·exact hm hb
   ·rw [Nat.one_shiftLeft,Nat.testBit_two_pow]at hb
    have:e.on=i:=by simpa using hb
    rw [<-this];exact ZJ
   ·cases ha:acc[e.on]? with
    | none=>rw [BD,ha]at hb;simp at hb
    | some m'=>
     rw [BD,ha]at hb;exact aGh _ _ ha (h _ ZJ) _ hb
 refine key _ 0 (fun e he=>?_) (fun h=>by simp at h) hi;obtain⟨h1,h2⟩:=List.mem_filter.1 he;exact⟨by simpa using h1,h2⟩
theorem aGi{t:Array Bool} (h:Down ops t):Yd ops t (Xy ops):=by
 unfold Xy
 have key:∀(l pre:List Oper) (acc:List Nat),ops.toList=pre++l->acc.length=pre.length->Yd ops t acc->Yd ops t (l.foldl (fun acc o=>acc++[Xx acc o]) acc):=by
  intro l;induction l with
  | nil=>intro pre acc _ _ aGh;exact aGh
  | cons o l ih=>
   intro pre acc he hlen aGh;refine ih (pre++[o]) _ (by rw [he];simp) (by simp [hlen]) ?_;intro r m hr hw i hi;by_cases hlt:r<acc.length
   ·rw [gI hlt]at hr
    exact aGh r m hr hw i hi
   ·rw [kI (by omega)]at hr
    have FB:r=acc.length:=by
     rcases BF (r-acc.length) 1 with h1 | h1
     ·omega
     ·rw [FK (by simpa using h1)]at hr;cases hr
    subst FB;simp at hr;subst hr;refine aGg h aGh ?_ hw hi;have:ops.toList[acc.length]? =some o:=by rw [he,hlen];simp
    simpa using this
 exact key _ [] [] rfl rfl (fun r m hr=>by simp at hr)
theorem Down.Ae{t:Array Bool} (h:Down ops t):∀(f r i:Nat),(∀e,TT ops r e->On t e)->Ae ops f r i=true->On t i:=by
 intro f r i hr hn;unfold Am.Ae at hn;cases ha:(Xy ops)[r]? with
 | none=>rw [BD,ha]at hn;simp at hn
 | some m=>
  rw [BD,ha]at hn;exact aGi h r m ha hr i hn
end aRV
section sound
variable{P:Program}{ops:Array Oper}{n0:Nat}{U:Rn}{a:Act}{w:World}
theorem EF.put (xA:Plain ops){p:Nat×Option Nat} (h:EF P ops n0 U a w p){d:Option Tmp}{v:Value} (hd:∀o,ops[p.1]? =some o->∀t,d=some t->t∉o.looksAt ops/\o.dst≠some t)
 (hd2:∀j q,eV P ops p.1=some j->ops[j]? =some q->∀t,d=some t->t∉q.looksAt ops/\q.dst≠some t):EF P ops n0 U (a.put d v) w p:=by
 cases h with
 | @pure i o e v' ho he hp ha hr=>
  refine .pure ho he hp (fun u hu=>ha u ?_) fun w'=>?_
  ·rw [uE]at hu
   ·exact hu
   ·intro h;exact(hd o ho e h).2 he
  ·rw [execOp_put o (xA _ o ho).1 a d v (fun t ht=>(hd o ho t ht).1)];exact hr w'
 | @mk i o e ob mkv b ho he hp ha hr hb hw hf=>
  refine .mk ho he hp (fun u hu=>ha u ?_) (fun w'=>?_) hb hw hf
  ·rw [uE]at hu
   ·exact hu
   ·intro h;exact(hd o ho e h).2 he
  ·rw [execOp_put o (xA _ o ho).1 a d v (fun t ht=>(hd o ho t ht).1)];exact hr w'
 | @conv i j o q e t v' ob mkv b ho he hc hq hqd ha RE hrq hr hb hw hf=>
  refine .conv ho he hc hq hqd (fun u hu=>ha u ?_) (fun u hu=>RE u ?_) (fun w'=>?_) (fun w' hw'=>?_) hb hw hf
  ·rw [uE]at hu
   ·exact hu
   ·intro h;exact(hd o ho e h).2 he
  ·rw [uE]at hu
   ·exact hu
   ·intro h;exact(hd2 j q hc hq t h).2 hqd
  ·rw [execOp_put q (xA _ q hq).1 a d v (fun t ht=>(hd2 j q hc hq t ht).1)];exact hrq w'
  ·rw [execOp_put o (xA _ o ho).1 a d v (fun t ht=>(hd o ho t ht).1)];exact hr w' hw'
theorem EF.RF{p:Nat×Option Nat} (h:EF P ops n0 U a w p){U':Rn}{w':World} (hs:xM U w U' w'):EF P ops n0 U' a w' p:=by
 have key:∀{b:Nat} {ob:Obj},w.heap[b]? =some ob->(∀i L,U i=some L->L.b≠b)->w'.heap[b]? =some ob/\∀i L,U' i=some L->L.b≠b:=by
  intro b ob hw hf;have hlt:b<w.heap.size:=(Array.getElem?_eq_some_iff.1 hw).1;refine⟨(hs.fr.2 b hlt hf).trans hw,fun i L hi=>?_⟩;rcases hs.nw i L hi with h1 | h1 | ⟨j,M,h1,h2⟩
  ·exact hf i L h1
  ·omega
  ·rw [<-h2];exact hf j M h1
 cases h with
 | pure ho he hp ha hr=>exact .pure ho he hp ha hr
 | mk ho he hp ha hr hb hw hf=>exact .mk ho he hp ha hr hb (key hw hf).1 (key hw hf).2
 | conv ho he hc hq hqd ha RE hrq hr hb hw hf=>exact .conv ho he hc hq hqd ha RE hrq hr hb (key hw hf).1 (key hw hf).2
theorem Rel.grow{w0:World}{S:St} (h:Rel P w0 U S w) (ob:Obj):Rel P w0 U S (w.alloc ob):=by
 have hold:∀k,k<w.heap.size->(w.alloc ob).heap[k]? =w.heap[k]? :=fun k hk=>by show(w.heap.push ob)[k]? =_;rw [Wz,aG (by omega)]
 have hsz:(w.alloc ob).heap.size=w.heap.size+1:=Array.size_push _
 exact⟨h.Oi,fun i o hi=>(h.OY i o hi).frame (.refl U) fun L hL=>hold _ (h.loc i L hL),h.dom,h.lt,fun i L hL=>by have:=h.loc i L hL;omega,h.sep,h.old,
  ⟨h.base.os,h.base.tape,h.base.output,by have:=h.base.size;omega,fun k hk=>(hold k (CX hk h.base.size)).trans (h.base.block k hk)⟩⟩
theorem xM.grow{U0:Rn}{wa:World} (h:xM U0 wa U w) (ob:Obj):xM U0 wa U (w.alloc ob):=by
 have hsz:(w.alloc ob).heap.size=w.heap.size+1:=Array.size_push _;refine⟨h.ext,⟨by have:=h.fr.1;omega,fun c hc hn=>?_⟩,h.nw⟩;rw [<-h.fr.2 c hc hn];show(w.heap.push ob)[c]? =_;rw [Wz,aG (by have:=h.fr.1;omega)]
theorem EF.grow{p:Nat×Option Nat} (h:EF P ops n0 U a w p) (ob:Obj):EF P ops n0 U a (w.alloc ob) p:=by
 refine h.RF ⟨.refl U,⟨by have:(w.alloc ob).heap.size=w.heap.size+1:=Array.size_push _;omega,fun c hc _=>?_⟩,fun _ _ h=> .inl h⟩;show(w.heap.push ob)[c]? =_;rw [Wz,aG (by omega)]
theorem BI.aN6{A:bC} (h:BI P U A a){d:Tmp} (hd:A.tmps.t.get d=none) (v:Value):BI P U A (a.put (some d) v):=by
 refine⟨⟨?_,fun k x hx=>?_⟩,h.g⟩
 ·show _=(a.tmps.setIfInBounds d v).toList.length
  rw [Bf,Bk];exact h.tmps.1
 ·obtain⟨y,hy,hr⟩:=h.tmps.2 k x hx
  refine⟨y,?_,hr⟩;show(a.tmps.setIfInBounds d v).toList[k]? =_;rw [Bf,IE (fun e=>by subst e;rw [hd]at hx;cases hx)];exact hy
theorem aGj{A:bC}{o:Oper}{k:Bool} (h:aCY A o k=true):∃d,o.dst=some d/\A.tmps.t.get d=none/\k=true:=by
 unfold aCY at h;split at h
 ·rename_i d hd
  refine⟨d,hd,?_⟩;rw [mZ]at h;cases hg:A.tmps.t.get d with
  | none=>rw [hg]at h;exact⟨rfl,h⟩
  | some x=>rw [hg]at h;cases h
 ·cases h
end sound
section sound
variable{E:Env}{w0:World}{ops:Array Oper}
theorem aGk{A:bC}{S:St}:∀{l:List (Nat×List Nat)} {k:Bool},UV E ops A S l k=true->
 k=true/\∀p∈l,∃o d,ops[p.1]? =some o/\o.dst=some d/\A.tmps.t.get d=none/\nW E ops p.2 A S (fun A S=>IM E ops p.1 o A S fun _ _=>true)=true:=by
 intro l;induction l with
 | nil=>intro k h;exact⟨h,by simp⟩
 | cons p l ih=>
  intro k h;unfold UV at h;rw [bU]at h;split at h
  ·rename_i o ho
   obtain⟨d,hd,hg,h⟩:=aGj h;cases hb:nW E ops p.2 A S (fun A S=>IM E ops p.1 o A S fun _ _=>true)with
   | false=>rw [hb]at h;cases h
   | true=>
    rw [hb]at h;obtain⟨h1,h2⟩:=ih h;refine⟨h1,fun q hq=>?_⟩;rcases List.mem_cons.1 hq with rfl | hq
    ·exact⟨o,d,ho,hd,hg,hb⟩
    ·exact h2 q hq
  ·cases h
theorem Em{P:Program}{i:Nat}{o:Oper} (ho:ops[i]? =some o) (h:kZ P ops i=true):o.guard=none:=by
 unfold kZ at h;rw [ho]at h;simp only [VL]at h;rcases h with h | h
 ·unfold Pd at h
  simp only [dR,Option.isNone_iff_eq_none]at h;exact h.1
 ·obtain⟨j,hj⟩:=Option.isSome_iff_exists.1 h
  obtain⟨o2,_,_,BL,_,hg,_⟩:=nC hj;rw [ho]at BL;injection BL with BL;subst BL;exact hg
theorem aGl{U:Rn}{a:Act}{S:St}{A:bC}{w wa:World} (xA:Plain ops) (_hs:SR E.P w0 U A a S w) (hw0:w0.heap.size<=wa.heap.size) (Hj:wa.heap.size<=w.heap.size) (aRW:∀i L,U i=some L->L.b<w.heap.size)
 {i:Nat} {o:Oper} {d:Tmp} (ho:ops[i]? =some o) (hd:o.dst=some d) (NJ:d∉o.looksAt ops) (DP:kZ E.P ops i=true) {X:List (Nat×Option Nat)}
 {U1:Rn} {A1:bC} {S1:St} (xB:SR E.P w0 U1 A1 a S1 w) (aBl:∀j,eV E.P ops i=some j->∃b,(j,some b)∈X/\EF E.P ops wa.heap.size U a w (j,some b)/\EF E.P ops wa.heap.size U1 a w (j,some b)/\∀q,ops[j]? =some q->d∉q.looksAt ops/\q.dst≠some d)
 (hk:IM E ops i o A1 S1 (fun _ _=>true)=true) {U0:Rn} (aTb:xM U0 wa U w):
 ∃v' wn ob,(execOp a.eval o).run E.P w= .ok (.value v') wn/\(wn=w\/∃x,wn=w.alloc x)/\EF E.P ops wa.heap.size U (a.put o.dst v') wn (i,ob)/\(∀b,ob=some b->(eV E.P ops i=none/\b=w.heap.size)\/∃j,eV E.P ops i=some j/\(j,some b)∈X):=by
 have vO:∀v',execOp (a.put o.dst v').eval o=execOp a.eval o:=fun v'=>execOp_put o (xA _ o ho).1 a o.dst v' (fun t ht=>by rw [hd]at ht;injection ht with ht;subst ht;exact NJ);cases hcv:eV E.P ops i with
 | some j=>
  obtain⟨b,hX,he0,he1,hap⟩:=aBl j hcv;obtain⟨o2,q2,t,BL,hco,hg,_,Xz,hm,hg2,Ya,_⟩:=nC hcv;rw [ho]at BL;injection BL with BL;subst BL
  have aQa:eV E.P ops j=none:=by
   cases h:eV E.P ops j with
   | none=>rfl
   | some j2=>
    obtain⟨o3,_,t3,ho3,aRX,_⟩:=nC h;rw [Xz]at ho3;injection ho3 with ho3;subst ho3;rw [(HK aRX).2.2.2]at hm;cases hm
  generalize hp0:(j,some b)=p0 at he0 he1;cases he0 with
  | pure=>injection hp0 with _ h;cases h
  | conv _ _ hc=>injection hp0 with h _;subst h;rw [aQa]at hc;cases hc
  | @mk j' q t' ob mkv b' hq hqd hp ha hr hb hw hf=>
   injection hp0 with h1 h2;injection h2 with h2;subst h1 h2;rw [Xz]at hq;injection hq with hq;subst hq;rw [Ya]at hqd;injection hqd with hqd;subst hqd
   have hf1:∀i L,U1 i=some L->L.b≠b:=by
    cases he1 with
    | mk _ _ _ _ _ _ _ hf=>exact hf
    | conv _ _ hc=>rw [aQa]at hc;cases hc
   obtain⟨v',_,RQ,fN⟩:=aBj xB ho hcv Xz Ya ha hr (zA hw0 hb) hw hf1 hk;refine⟨v',w,some b,fN w hw,.inl rfl,.conv ho hd hcv Xz Ya (fun u hu=>?_) (fun u hu=>ha u ?_) (fun w'=>?_) (fun w' hw'=>by rw [vO];exact fN w' hw') hb hw hf,fun b' TN=> .inr ⟨j,rfl,by injection TN with TN;subst TN;exact hX⟩⟩
   ·rw [hd]at hu
    exact GW u hu
   ·rw [uE]at hu
    ·exact hu
    ·rw [hd];intro e;injection e with e;subst e;exact(hap _ Xz).2 Ya
   ·rw [execOp_put q2 (xA _ q2 Xz).1 a o.dst v' (fun t ht=>by rw [hd]at ht;injection ht with ht;subst ht;exact(hap _ Xz).1)];exact hr w'
 | none=>
 have DP:Pd E.P o=true:=by
  unfold kZ at DP;rw [ho]at DP;simp only [hcv,Option.isSome_none,Bool.or_false]at DP;exact DP
 unfold IM at hk;rw [hcv]at hk;have hk:AD E o A1 S1 (fun _ _=>true)=true:=hk;cases hp:qR E.P o with
 | true=>
  obtain⟨v,v',_,_,hr⟩:=SG xB.rel xB.act hp hk;refine⟨v',w,none,hr w,.inl rfl,.pure ho hd hp (fun u hu=>?_) (fun w'=>by rw [vO];exact hr w'),fun b h=>by cases h⟩;rw [hd]at hu;exact GW u hu
 | false=>
  have hal:JX o=true:=by
   unfold Pd at DP;rw [hp]at DP;simp only [dR,Bool.false_and,Bo]at DP;exact DP.2.2
  obtain⟨v,obj,ob,mk,_,M⟩:=Cj xB.rel xB.act hal hk;refine⟨mk w.heap.size,w.alloc ob,some w.heap.size,M.run w,.inr ⟨ob,rfl⟩,.mk ho hd hal (fun u hu=>?_) (fun w'=>by rw [vO];exact M.run w') Hj ?_ (fun i L hi=>?_),fun b h=> .inl ⟨rfl,by injection h with h;exact h.symm⟩⟩
  ·rw [hd]at hu
   exact GW u hu
  ·show(w.heap.push ob)[w.heap.size]? =_;simp
  ·have:=aRW i L hi;omega
theorem aLk{ro:Option Nat}{P:Program}{Q:Exit->Act->World->Prop}{i:Nat}{o:Oper}{v:Value}{a:Act}{w wn:World} (xA:Plain ops) (hi:ops[i]? =some o) (hg:o.guard=none) (hr:(execOp a.eval o).run P w= .ok (.value v) wn)
 {K:Act->World->Prop} (hk:K (a.put o.dst v) wn):wpOpIn (UT ro) 0 P ops Q i K a w:=by
 have hw:Region.wanted o (yielded ops a.tmps)=true:=by unfold Region.wanted;rw [hg]
 unfold wpOpIn;simp only [hi,hw,if_true,Oper.wpIn,Oper.semAt_eq _ _ _ (xA i o hi).2,hr,Oper.uponIn];exact⟨fun _ _=>trivial,hk⟩
end sound
section sound
variable{E:Env}{w0:World}{ops:Array Oper}
theorem Ts{d:Nat}{o:Oper} (h:DO ops d=true) (ho:ops[d]? =some o){j:Nat}{q:Oper}{e:Tmp} (hj:j≠d) (hq:ops[j]? =some q) (he:q.dst=some e):
 o.dst≠some e/\(e∈o.looksAt ops->Ae ops ops.size d j=true):=by
 unfold DO at h;rw [ho]at h;have hlt:j<ops.size:=(Array.getElem?_eq_some_iff.1 hq).1;have h1:=List.all_eq_true.1 h j (List.mem_range.2 hlt);simp only [hq,he,VL,beq_iff_eq,dR,bne_iff_ne,KN,ne_eq]at h1;rcases h1 with h1 | ⟨h1,h2⟩
 ·exact aX h1 hj
 ·refine⟨h1,fun hm=>?_⟩
  rcases h2 with h2 | h2
  ·exfalso
   revert h2;simp [hm]
  ·exact h2
def rem (t:Array Bool):Nat:=(List.range t.size).countP fun j=> !t.getD j false
theorem Ye{t:Array Bool}{i m:Nat} (hi:i<t.size) (hn:¬On t i) (h:rem t<=m+1):rem (t.setIfInBounds i true)<=m:=by
 have hlt:rem (t.setIfInBounds i true)<rem t:=by
  unfold rem;rw [show(t.setIfInBounds i true).size=t.size from Array.size_setIfInBounds]
  have key:∀l:List Nat,(l.countP fun j=> !(t.setIfInBounds i true).getD j false)<=(l.countP fun j=> !t.getD j false)/\(i∈l->(l.countP fun j=> !(t.setIfInBounds i true).getD j false)<(l.countP fun j=> !t.getD j false)):=by
   intro l;induction l with
   | nil=>exact⟨bR _,fun h=>by cases h⟩
   | cons j l ih=>
    by_cases e:j=i
    ·subst e
     have h1:(t.setIfInBounds j true).getD j false=true:=(On.set hi).2 (.inr rfl);have h2:t.getD j false=false:=by simpa [On]using hn
     simp only [List.countP_cons,h1,h2];have h3:=ih.1;simp only [dD,uN,if_true,Ho,if_false];exact⟨by omega,fun _=>by omega⟩
    ·have h1:(t.setIfInBounds i true).getD j false=t.getD j false:=by
      have h1:(t.setIfInBounds i true)[j]? =t[j]? :=by rw [aCH (aO e)]
      simp [h1]
     simp only [List.countP_cons,h1];refine⟨by have:=ih.1;omega,fun hm=>?_⟩;rcases List.mem_cons.1 hm with h | h
     ·exact aX h.symm e
     ·have:=ih.2 h;omega
  exact(key _).2 (List.mem_range.2 hi)
 omega
theorem Pg{t:Array Bool} (h:rem t<=0){i:Nat} (hi:i<t.size):On t i:=by
 unfold rem at h;have h0:=List.countP_eq_zero.1 (Nat.le_zero.1 h) i (List.mem_range.2 hi);simpa [On]using h0
structure Inv (E:Env) (w0:World) (ops:Array Oper) (U0:Rn) (wa:World) (L:Array Bool) (taken:List Nat) (m:Nat) (L':Array Bool) (X:List (Nat×Option Nat)) (J:List (Nat×Value)) (U:Rn) (A:bC) (a:Act) (S:St) (w:World):Prop where
 hs:SR E.P w0 U A a S w
 RF:xM U0 wa U w
 szL:L.size=ops.size
 sz:L'.size=ops.size
 on:∀j,On L' j↔On L j\/∃p∈X,p.1=j
 down:Down ops L'
 xf:∀p∈X,EF E.P ops wa.heap.size U a w p
 xl:∀p∈X,DO ops p.1=true/\kZ E.P ops p.1=true/\¬On L p.1
 xd:∀p∈X,∀q∈X,p.1=q.1->p=q
 xb:∀p∈X,∀q∈X,∀b,p.2=some b->q.2=some b->IL E.P ops p.1=false->eV E.P ops p.1=none->p=q
 xs:∀p∈X,∀j,eV E.P ops p.1=some j->∃q∈X,q.1=j
 lg:∀j,On L j->IL E.P ops j=false
 jf:∀p∈J,p.1∈taken/\Kn E.P ops a w p
 fuel:rem L'<=m
 xr:CC ops L [] (X.map Prod.fst).reverse
 jx:∀p∈J,∀q∈X,dep ops q.1 p.1=false
theorem Inv.apart{U0:Rn}{wa:World}{L:Array Bool}{taken:List Nat}{m:Nat}{L':Array Bool}{X:List (Nat×Option Nat)}{J:List (Nat×Value)}{U:Rn}{A:bC}{a:Act}{S:St}{w:World}
 (h:Inv E w0 ops U0 wa L taken m L' X J U A a S w) {j:Nat} {q:Oper} (hq:ops[j]? =some q) (hj:¬On L' j) {p:Nat×Option Nat} (hp:p∈X):
 ∀o,ops[p.1]? =some o->∀t,q.dst=some t->t∉o.looksAt ops/\o.dst≠some t:=by
 intro o ho t ht;have ZJ:On L' p.1:=(h.on _).2 (.inr ⟨p,hp,rfl⟩);have oJ:j≠p.1:=fun e=>hj (e▸ZJ);obtain⟨h1,h2⟩:=Ts (h.xl p hp).1 ho oJ hq ht;exact⟨fun hm=>hj (h.down.Ae _ _ _ (h.down _ ZJ) (h2 hm)),h1⟩
theorem Inv.aCZ{U0:Rn}{wa:World}{L:Array Bool}{taken:List Nat}{m:Nat}{L':Array Bool}{X:List (Nat×Option Nat)}{J:List (Nat×Value)}{U:Rn}{A:bC}{a:Act}{S:St}{w:World}
 (h:Inv E w0 ops U0 wa L taken m L' X J U A a S w) {j:Nat} {q:Oper} (hq:ops[j]? =some q) (hj:¬On L' j) {p:Nat×Option Nat} (hp:p∈X):
 ∀i r,eV E.P ops p.1=some i->ops[i]? =some r->∀t,q.dst=some t->t∉r.looksAt ops/\r.dst≠some t:=by
 intro i r hi hr;obtain⟨p',hp',rfl⟩:=h.xs p hp i hi;exact h.apart hq hj hp' r hr
theorem Eo{P:Program}{i:Nat}{o:Oper} (ho:ops[i]? =some o) (h:neutral P o=true):IL P ops i=false/\eV P ops i=none:=by
 constructor
 ·cases hg:IL P ops i with
  | false=>rfl
  | true=>
   obtain⟨q,hq,hm⟩:=aGd hg;rw [ho]at hq;injection hq with hq;subst hq;unfold neutral at h;rw [Kb hm]at h
   have:DM o=false:=by
    unfold LD at hm;unfold DM;split at hm
    ·rename_i h1;rw [h1]
    ·cases hm
   rw [this]at h;cases h
 ·cases hc:eV P ops i with
  | none=>rfl
  | some j=>
   obtain⟨o2,_,t,BL,hco,_⟩:=nC hc;rw [ho]at BL;injection BL with BL;subst BL;unfold neutral at h;rw [(HK hco).1,(HK hco).2.2.1]at h;cases h
theorem aGm{P:Program}{j:Nat} (h:IL P ops j=true):kZ P ops j=true:=by
 unfold IL at h;simp only [dR]at h;obtain⟨i,_,hi⟩:=List.any_eq_true.1 h.2;have hi:eV P ops i=some j:=by simpa using hi
 obtain⟨_,q,t,_,_,_,_,hq,hm,hg,hd,_⟩:=nC hi;unfold kZ;rw [hq];unfold Pd;simp [hg,hd,Ej hm]
end sound
section sound
variable{E:Env}{w0:World}{ops:Array Oper}
theorem Inv.early{ro:Option Nat}{Q:Exit->Act->World->Prop}{U0:Rn}{wa:World}{L:Array Bool}{taken:List Nat}{m:Nat}{L':Array Bool}{X:List (Nat×Option Nat)}{J:List (Nat×Value)}{U:Rn}{A:bC}{a:Act}{S:St}{w:World}
 (xA:Plain ops) (Hj:w0.heap.size<=wa.heap.size) (h:Inv E w0 ops U0 wa L taken (m+1) L' X J U A a S w) {d:Nat} {o:Oper} (ho:ops[d]? =some o) (tA:d∈Region.ready .any ops L') (DP:kZ E.P ops d=true)
 (IV:DO ops d=true) (NJ:FV ops o=true) (qS:∀p∈taken,dep ops d p=false->leaves ops o p=true) {BO:List Nat} {k:Bool} (Yf:zC E ops A S BO k=true) (aBc:∀i∈BO,jC ops i=true)
 (rH:∀i∈taken,jC ops i=true->i∈BO) {e:Tmp} (hd:o.dst=some e) (aN7:A.tmps.t.get e=none) {c:List Nat} (Pf:nW E ops c A S (fun A S=>IM E ops d o A S fun _ _=>true)=true)
 (hc:∀i∈c,∃p∈X,p.1=i) (hcg:∀i∈c,IL E.P ops i=false) (hcn:c.Nodup) {K:Act->World->Prop}
 (hK:∀a' w' X',Inv E w0 ops U0 wa L taken m (L'.setIfInBounds d true) X' (J.filter fun p=> !dep ops d p.1) U A a' S w'->K a' w'):wpOpIn (UT ro) 0 E.P ops Q d K a w:=by
 obtain⟨U1,A1,S1,Yb,xB,_,hX1,_⟩:=SI Hj c Pf h.hs h.RF hc hcg h.xf h.xb hcn;obtain⟨⟨aQb,hdn⟩,_,hdw⟩:=kN.1 tA
 have aBl:∀j,eV E.P ops d=some j->∃b,(j,some b)∈X/\EF E.P ops wa.heap.size U a w (j,some b)/\EF E.P ops wa.heap.size U1 a w (j,some b)/\∀q,ops[j]? =some q->e∉q.looksAt ops/\q.dst≠some e:=by
  intro j hj;obtain⟨_,q,t,_,_,_,_,hq,hm,_,_,aLe⟩:=nC hj;have ZJ:On L' j:=hdw j (aEE.1 aLe);have hgj:=Ms hj;rcases(h.on j).1 ZJ with h1 | ⟨⟨j',ob⟩,hp,h1⟩
  ·rw [h.lg j h1]at hgj;cases hgj
  ·have h1:j'=j:=h1
   subst h1;have hef:=h.xf _ hp;have hap:=h.apart ho hdn hp;have hjc:j'∉c:=fun hm=>by rw [hcg _ hm]at hgj;cases hgj
   cases ob with
   | none=>
    exfalso;cases hef with
    | pure Xz _ Yg _ _=>
     rw [hq]at Xz;injection Xz with Xz;subst Xz;rw [Kb hm]at Yg;cases Yg
   | some b=>exact⟨b,hp,hef,hX1 _ hp hjc,fun q hq=>hap q hq e hd⟩
 obtain⟨v',wn,ob,hr,hwn,hef,hob⟩:=aGl xA h.hs Hj h.RF.fr.1 h.hs.rel.loc ho hd (WL NJ e hd) DP (X:=X) xB aBl Yb h.RF;have hg:o.guard=none:=Em ho DP;have aRY:(a.put o.dst v').defers=a.defers:=by rw [hd];rfl
 have hsr:SR E.P w0 U A (a.put o.dst v') S wn:=by
  refine⟨by rw [hd];exact h.hs.act.aN6 aN7 v',?_,by rw [aRY];exact h.hs.marks⟩;rcases hwn with rfl | ⟨x,rfl⟩
  ·exact h.hs.rel
  ·exact h.hs.rel.grow x
 refine aLk xA ho hg hr (hK _ _ ((d,ob)::X) ⟨hsr,?_,h.szL,Array.size_setIfInBounds.trans h.sz,fun j=>?_,h.down.set tA,fun p hp=>?_,fun p hp=>?_,fun p hp q hq hpq=>?_,fun p hp q hq b Dl NH hg1 hc1=>?_,fun p hp j hj=>?_,h.lg,fun p hp=>?_,Ye aQb hdn h.fuel,?_,fun p hp q hq=>?_⟩)
 ·rcases hwn with rfl | ⟨x,rfl⟩
  ·exact h.RF
  ·exact h.RF.grow x
 ·rw [On.set aQb,h.on]
  constructor
  ·rintro((h1 | ⟨p,hp,h1⟩) | h1)
   ·exact .inl h1
   ·exact .inr ⟨p,.tail _ hp,h1⟩
   ·exact .inr ⟨_,.head _,h1.symm⟩
  ·rintro(h1 | ⟨p,hp,h1⟩)
   ·exact .inl (.inl h1)
   ·rcases List.mem_cons.1 hp with rfl | hp
    ·exact .inr h1.symm
    ·exact .inl (.inr ⟨p,hp,h1⟩)
 ·rcases List.mem_cons.1 hp with rfl | hp
  ·exact hef
  ·have h1:=(h.xf p hp).put xA (d:=o.dst) (v:=v') (h.apart ho hdn hp) (h.aCZ ho hdn hp)
   rcases hwn with rfl | ⟨x,rfl⟩
   ·exact h1
   ·exact h1.grow x
 ·rcases List.mem_cons.1 hp with rfl | hp
  ·refine⟨IV,DP,fun h1=>hdn ((h.on _).2 (.inl h1))⟩
  ·exact h.xl p hp
 ·have hX:∀p∈X,p.1≠d:=fun p hp e=>hdn ((h.on _).2 (.inr ⟨p,hp,e⟩))
  rcases List.mem_cons.1 hp with rfl | hp<;>rcases List.mem_cons.1 hq with rfl | hq
  ·rfl
  ·exact aX hpq.symm (hX q hq)
  ·exact aX hpq (hX p hp)
  ·exact h.xd p hp q hq hpq
 ·have hX:∀p∈X,∀b,p.2=some b->b<w.heap.size:=fun p hp b hb=>by
   have:=h.xf p hp;cases this with
   | pure=>cases hb
   | mk _ _ _ _ _ _ hw _=>injection hb with hb;subst hb;exact(Array.getElem?_eq_some_iff.1 hw).1
   | conv _ _ _ _ _ _ _ _ _ _ hw _=>injection hb with hb;subst hb;exact(Array.getElem?_eq_some_iff.1 hw).1
  rcases List.mem_cons.1 hp with rfl | hp<;>rcases List.mem_cons.1 hq with rfl | hq
  ·rfl
  ·rcases hob b Dl with ⟨_,e1⟩ | ⟨j,hj,_⟩
   ·have:=hX q hq b NH;omega
   ·have hc1:eV E.P ops d=none:=hc1
    rw [hj]at hc1;cases hc1
  ·rcases hob b NH with ⟨_,e1⟩ | ⟨j,hj,hjX⟩
   ·have:=hX p hp b Dl;omega
   ·have e2:=h.xb p hp _ hjX b Dl rfl hg1 hc1
    rw [e2]at hg1;have hg1:IL E.P ops j=false:=hg1;rw [Ms hj]at hg1;cases hg1
  ·exact h.xb p hp q hq b Dl NH hg1 hc1
 ·rcases List.mem_cons.1 hp with rfl | hp
  ·obtain⟨b,hb,_⟩:=aBl j hj
   exact⟨_,.tail _ hb,rfl⟩
  ·obtain⟨q,hq,e1⟩:=h.xs p hp j hj
   exact⟨q,.tail _ hq,e1⟩
 ·obtain⟨hp,hdp⟩:=List.mem_filter.1 hp
  obtain⟨Vk,hkn⟩:=h.jf p hp;refine⟨Vk,?_⟩;have hlv:=qS p.1 Vk (by simpa using hdp);rcases hkn with ⟨q,k1,k2,k3⟩ | ⟨q,d',k1,k2,k3,k4,k5⟩
  ·exact .inl ⟨q,k1,k2,fun w=>(Yl.put xA (fun q hq t ht=>(xQ hlv hq t ht).1)).2 (k3 w)⟩
  ·have hil:jC ops p.1=true:=by unfold jC;rw [k1];simp [k2,k4]
   obtain⟨_,h2⟩:=Ci hsr Yf aBc;obtain⟨o2,d2,u',z1,z2,z3,z4⟩:=h2 p.1 (rH _ Vk hil);rw [k1]at z1;injection z1 with z1;subst z1;rw [k4]at z2;injection z2 with z2;subst z2;have oJ:o.dst≠some d':=fun e=>(xQ hlv k1 d' e).2 k4;have hu:u'=p.2:=k5 u' (by rw [<-z3,uE oJ]);subst hu;refine .inr ⟨q,d',k1,k2,z4,k4,fun u hu=>?_⟩;rw [z3]at hu;injection hu with hu;exact hu.symm
 ·rw [Bp,List.reverse_cons]
  refine h.xr.snoc fun e he=>?_;rcases(h.on e).1 (hdw e he)with h1 | ⟨p,hp,h1⟩
  ·exact .inl h1
  ·exact .inr (.inr (List.mem_reverse.2 (List.mem_map.2 ⟨p,hp,h1⟩)))
 ·obtain⟨hp,hdp⟩:=List.mem_filter.1 hp
  rcases List.mem_cons.1 hq with rfl | hq
  ·simpa using hdp
  ·exact h.jx p hp q hq
end sound
section sound
variable{E:Env}{w0:World}{ops:Array Oper}
theorem Inv.aBm{ro:Option Nat}{Q:Exit->Act->World->Prop} (hQp:∀c a w,¬Q (.panic c) a w){U0:Rn}{wa:World}{L:Array Bool}{taken:List Nat}{m:Nat}{L':Array Bool}{X:List (Nat×Option Nat)}{J:List (Nat×Value)}{U:Rn}{A:bC}{a:Act}{S:St}{w:World}
 (xA:Plain ops) (Hj:w0.heap.size<=wa.heap.size) {i:Nat} {o:Oper} (ho:ops[i]? =some o) (LG:i∈Region.ready .any ops L) (Ck:neutral E.P o=true) (IV:Region.free .any ops L i=true) (NJ:FV ops o=true)
 (qS:taken.all (leaves ops o)=true) (DQ:(qR E.P o || jC ops i)=true) {rest:bC->St->Bool} (hk:Ca E ops o A S rest=true)
 (ih:∀{m:Nat} {L':Array Bool} {X:List (Nat×Option Nat)} {J:List (Nat×Value)} {U:Rn} {A:bC} {a:Act} {S:St} {w:World},rest A S=true->Inv E w0 ops U0 wa (L.setIfInBounds i true) (i::taken) m L' X J U A a S w->DL ro E.P ops Q m J L' a w)
 (h:Inv E w0 ops U0 wa L taken m L' X J U A a S w):DL ro E.P ops Q m J L' a w:=by
 obtain⟨⟨Ph,So⟩,_,hiw⟩:=kN.1 LG;by_cases ZJ:On L' i
 ·
   rcases(h.on i).1 ZJ with h1 | ⟨p,hp,hpi⟩
   ·exact aX h1 So
   ·have DP:kZ E.P ops i=true:=by
     have:=(h.xl p hp).2.1;rw [hpi]at this;exact this
    have hg:o.guard=none:=Em ho DP;obtain⟨hng,hnc⟩:=Eo ho Ck
    have hk:nW E ops [i] A S rest=true:=by
     unfold Ca DC at hk;rw [hg]at hk;unfold nW;rw [bU];simp only [ho];unfold IM;rw [hnc];exact hk
    obtain⟨U',A',S',g1,g2,g3,g4,g5⟩:=SI Hj [i] hk h.hs h.RF (fun j hj=>⟨p,hp,hpi.trans (List.mem_singleton.1 hj).symm⟩) (fun j hj=>by rw [List.mem_singleton.1 hj];exact hng) h.xf h.xb (by simp);have hX:∀q,q∈X.filter (fun q=>q.1 != i)↔q∈X/\q.1≠i:=fun q=>by rw [Bl];simp
    refine ih g1 (X:=X.filter fun q=>q.1 != i) ⟨g2,g3,Array.size_setIfInBounds.trans h.szL,h.sz,fun j=>?_,h.down,fun q hq=>?_,fun q hq=>?_,fun q hq r hr=>h.xd q ((hX q).1 hq).1 r ((hX r).1 hr).1,fun q hq r hr=>h.xb q ((hX q).1 hq).1 r ((hX r).1 hr).1,fun q hq j hj=>?_,fun j hj=>?_,fun q hq=>⟨.tail _ (h.jf q hq).1,(h.jf q hq).2⟩,h.fuel,?_,fun q hq r hr=>h.jx q hq r ((hX r).1 hr).1⟩
    ·rw [h.on,On.set Ph]
     constructor
     ·rintro(h1 | ⟨q,hq,h1⟩)
      ·exact .inl (.inl h1)
      ·by_cases e:j=i
       ·exact .inl (.inr e)
       ·exact .inr ⟨q,(hX q).2 ⟨hq,by rw [h1];exact e⟩,h1⟩
     ·rintro((h1 | h1) | ⟨q,hq,h1⟩)
      ·exact .inl h1
      ·exact .inr ⟨p,hp,hpi.trans h1.symm⟩
      ·exact .inr ⟨q,((hX q).1 hq).1,h1⟩
    ·exact g4 q ((hX q).1 hq).1 (by simpa using((hX q).1 hq).2)
    ·obtain⟨x1,x2,x3⟩:=h.xl q ((hX q).1 hq).1
     refine⟨x1,x2,fun hh=>?_⟩;rcases(On.set Ph).1 hh with hh | hh
     ·exact x3 hh
     ·exact((hX q).1 hq).2 hh
    ·obtain⟨r,hr,hrj⟩:=h.xs q ((hX q).1 hq).1 j hj
     refine⟨r,(hX r).2 ⟨hr,fun e=>?_⟩,hrj⟩;have:=Ms hj;rw [<-hrj,e,hng]at this;cases this
    ·rcases(On.set Ph).1 hj with hj | hj
     ·exact h.lg j hj
     ·rw [hj];exact hng
    ·have e1:((X.filter fun q=>q.1 != i).map Prod.fst).reverse=(X.map Prod.fst).reverse.filter fun j=>j != i:=by
      rw [List.filter_reverse,List.filter_map];rfl
     rw [e1];refine h.xr.filter (fun e he=>(On.set Ph).2 (.inl he)) (fun e he=>by cases he) fun e _ he=>(On.set Ph).2 (.inr (by simpa using he))
 ·have aEF:i<L'.size:=by rw [h.sz,<-h.szL];exact Ph
  have aNf:i∈Region.ready .any ops L':=kN.2 ⟨⟨aEF,ZJ⟩,by rw [<-h.szL];exact Ph,fun e he=>(h.on e).2 (.inl (hiw e he))⟩;cases m with
  | zero=>exact aX (Pg h.fuel aEF) ZJ
  | succ m=>
   have hs:=h.hs;unfold Ca at hk;have hk:=SC hs.act hk;have aHY:∀(v:Value) (w:World),Yl E.P ops i v a w->Yl E.P ops i v (a.put o.dst v) w:=fun v w h=>(Yl.put xA (fun o' WH t ht=>by rw [ho]at WH;injection WH with WH;subst WH;exact WL NJ t ht)).2 h
   have hold:∀(v:Value),∀p∈J,Kn E.P ops a w p->Kn E.P ops (a.put o.dst v) w p:=by
    intro v p hp hh;have hlv:=List.all_eq_true.1 qS p.1 (h.jf p hp).1;have vO:∀w,Yl E.P ops p.1 p.2 a w->Yl E.P ops p.1 p.2 (a.put o.dst v) w:=fun w h=>(Yl.put xA (fun q hq t ht=>(xQ hlv hq t ht).1)).2 h;rcases hh with ⟨q,h1,h2,h3⟩ | ⟨q,d,h1,h2,h3,h4,h5⟩
    ·exact .inl ⟨q,h1,h2,fun w=>vO w (h3 w)⟩
    ·refine .inr ⟨q,d,h1,h2,vO w h3,h4,fun u hu=>h5 u ?_⟩
     rw [uE]at hu
     ·exact hu
     ·intro e;exact(xQ hlv h1 d e).2 h4
   have go:∀(v v':Value),mJ A o.dst v (fun A=>rest A S)=true->VR U v v'->Kn E.P ops (a.put o.dst v') w (i,v')->DL ro E.P ops Q (m+1) J L' a w:=by
    intro v v' hk hv hkn;obtain⟨U',A',S',g1,g2,g3⟩:=WF (k:=rest) hs ⟨U,v,S,hk,hv,hs.rel,.refl U w⟩;refine DL.take xA hQp ho (WL NJ) m J L' a w (fun j oj hj hji hun xC=>Region.free_spec ho IV j oj hj hji ?_ xC) (fun p hp q hq t ht=>?_) aNf (v:=v') ?_
    ·have h1:=Pe.1 hun
     exact Pe.2 ⟨by rw [h.szL,<-h.sz];exact h1.1,fun hh=>h1.2 ((h.on _).2 (.inl hh))⟩
    ·exact(xQ (List.all_eq_true.1 qS p.1 (h.jf p hp).1) hq t ht).1
    ·refine ih g1 (X:=X) ⟨g2,h.RF.trans g3,Array.size_setIfInBounds.trans h.szL,Array.size_setIfInBounds.trans h.sz,fun j=>?_,h.down.set aNf,fun q hq=>((h.xf q hq).put xA (h.apart ho ZJ hq) (h.aCZ ho ZJ hq)).RF g3,fun q hq=>?_,h.xd,h.xb,h.xs,fun j hj=>?_,fun p hp=>?_,Ye aEF ZJ h.fuel,?_,fun p hp q hq=>?_⟩
     ·rw [On.set aEF,On.set Ph,h.on]
      constructor
      ·rintro((h1 | h1) | h1)
       ·exact .inl (.inl h1)
       ·exact .inr h1
       ·exact .inl (.inr h1)
      ·rintro((h1 | h1) | h1)
       ·exact .inl (.inl h1)
       ·exact .inr h1
       ·exact .inl (.inr h1)
     ·obtain⟨x1,x2,x3⟩:=h.xl q hq
      refine⟨x1,x2,fun hh=>?_⟩;rcases(On.set Ph).1 hh with hh | hh
      ·exact x3 hh
      ·exact ZJ (hh▸(h.on _).2 (.inr ⟨q,hq,rfl⟩))
     ·rcases(On.set Ph).1 hj with hj | hj
      ·exact h.lg j hj
      ·rw [hj];exact(Eo ho Ck).1
     ·rcases List.mem_cons.1 hp with rfl | hp
      ·exact⟨.head _,hkn⟩
      ·exact⟨.tail _ (h.jf p hp).1,hold v' p hp (h.jf p hp).2⟩
     ·have:=h.xr.filter (t2:=L.setIfInBounds i true) (pre2:=[]) (q:=fun _=>true) (fun e he=>(On.set Ph).2 (.inl he)) (fun e he=>by cases he) (fun e _ he=>by cases he)
      rwa [List.filter_eq_self.2 (fun _ _=>rfl)]at this
     ·rcases List.mem_cons.1 hp with rfl | hp
      ·cases hdq:dep ops q.1 i with
       | false=>rfl
       | true=>exact aX (h.down q.1 ((h.on _).2 (.inr ⟨q,hq,rfl⟩)) i (aEE.1 hdq)) ZJ
      ·exact h.jx p hp q hq
   have kn:∀(v':Value),(qR E.P o=true->∀w,Yl E.P ops i v' a w)->Yl E.P ops i v' a w->Kn E.P ops (a.put o.dst v') w (i,v'):=by
    intro v' h1 h2;cases Yg:qR E.P o with
    | true=>exact .inl ⟨o,ho,Yg,fun w=>aHY v' w (h1 Yg w)⟩
    | false=>
     have hl:jC ops i=true:=by rw [Yg]at DQ;simpa using DQ
     unfold jC at hl;rw [ho]at hl;simp only [dR]at hl;obtain⟨d,hd⟩:=Option.isSome_iff_exists.1 hl.2;refine .inr ⟨o,d,ho,hl.1,aHY v' w h2,hd,?_⟩;rw [hd];exact GW
   cases hw:Region.wanted o (yielded ops a.tmps)with
   | true=>
    rw [hw]at hk;have hk:AD E o A S (fun v S=>mJ A o.dst v fun A=>rest A S)=true:=hk;cases Yg:qR E.P o with
    | true=>
     obtain⟨v,v',hk,hv,fN⟩:=SG hs.rel hs.act Yg hk;exact go v v' hk hv (kn v' (fun _ w=>⟨o,ho,.inl ⟨hw,fN w⟩⟩) ⟨o,ho,.inl ⟨hw,fN w⟩⟩)
    | false=>
     have hl:DM o=true:=by
      unfold neutral at Ck;rw [Yg]at Ck;simpa using Ck
     obtain⟨v,v',hk,hv,fN⟩:=Ef hs.rel hs.act hl hk;exact go v v' hk hv (kn v' (fun h=>by rw [Yg]at h;cases h) ⟨o,ho,.inl ⟨hw,fN⟩⟩)
   | false=>
    rw [hw]at hk;have hk:mJ A o.dst undef (fun A=>rest A S)=true:=hk;exact go undef undef hk .undef (kn undef (fun _ w=>⟨o,ho,.inr ⟨hw,rfl⟩⟩) ⟨o,ho,.inr ⟨hw,rfl⟩⟩)
end sound
section sound
variable{E:Env}{w0:World}{ops:Array Oper}
theorem HL{P:Program}{l:List Nat}{d i:Nat}:i∈uS P ops l d↔(i∈l/\Ae ops ops.size d i=true)/\IL P ops i=false:=by
 unfold uS;rw [Bl,Bl];simp
structure Ask (E:Env) (ops:Array Oper) (L:Array Bool) (taken:List Nat) (A:bC) (S:St) (c:Array Bool×List Nat):Prop where
 close:LF E.P ops ops.size L []=c
 ok:∀d∈c.2,DO ops d=true/\∃o,ops[d]? =some o/\FV ops o=true/\∀p∈taken,dep ops d p=false->leaves ops o p=true
 BO:∃(BO:List Nat) (k:Bool),zC E ops A S BO k=true/\(∀i∈BO,jC ops i=true)/\(c.2≠[]->∀i∈taken,jC ops i=true->i∈BO)
 pre:∀d∈c.2,∃o e,ops[d]? =some o/\o.dst=some e/\A.tmps.t.get e=none/\nW E ops (uS E.P ops c.2 d) A S (fun A S=>IM E ops d o A S fun _ _=>true)=true
theorem Inv.pick{ro:Option Nat}{Q:Exit->Act->World->Prop}{U0:Rn}{wa:World}{L:Array Bool}{taken:List Nat}{m:Nat}{L':Array Bool}{X:List (Nat×Option Nat)}{J:List (Nat×Value)}{U:Rn}{A:bC}{a:Act}{S:St}{w:World}{c:Array Bool×List Nat}
 (xA:Plain ops) (Hj:w0.heap.size<=wa.heap.size) (PZ:Ask E ops L taken A S c) (h:Inv E w0 ops U0 wa L taken (m+1) L' X J U A a S w) {d:Nat} (hd:d∈c.2) (tA:d∈Region.ready .any ops L')
 {K:Act->World->Prop} (hK:∀a' w' X',Inv E w0 ops U0 wa L taken m (L'.setIfInBounds d true) X' (J.filter fun p=> !dep ops d p.1) U A a' S w'->K a' w'):wpOpIn (UT ro) 0 E.P ops Q d K a w:=by
 obtain⟨mm,h1,_,_,h4,h5,_⟩:=CD _ _ _ PZ.close;have e2:c.2=mm:=by rw [h1];rfl
 rw [<-e2]at h4 h5;obtain⟨IV,o,ho,NJ,qS⟩:=PZ.ok d hd;obtain⟨BO,k,Yf,aBc,rH⟩:=PZ.BO;obtain⟨o',e,WH,hde,aN7,Pf⟩:=PZ.pre d hd;rw [ho]at WH;injection WH with WH;subst WH;have DP:kZ E.P ops d=true:=(h4 d hd).1;refine Inv.early xA Hj h ho tA DP IV NJ qS Yf aBc (rH (fun e=>by rw [e]at hd;cases hd)) hde aN7 Pf (fun i hi=>?_) (fun i hi=>(HL.1 hi).2) ((h5.filter _).filter _) hK;obtain⟨⟨IW,hi2⟩,_⟩:=HL.1 hi;have ZJ:On L' i:=h.down.Ae _ _ _ (kN.1 tA).2.2 hi2;rcases(h.on i).1 ZJ with h6 | h6
 ·exact aX h6 (h4 i IW).2.2
 ·exact h6
end sound
section sound
variable{E:Env}{w0:World}{ops:Array Oper}
theorem aBn{P:Program}{L:Array Bool}{c:Array Bool×List Nat} (hsz:L.size=ops.size) (hc:LF P ops ops.size L []=c) (xC:∀i∈Region.ready .any ops c.1,kZ P ops i=false):
 ∀(l pre:List Nat),CC ops L pre l->(∀e∈pre,On c.1 e)->(∀i∈l,kZ P ops i=true/\i<ops.size)->∀i∈l,On c.1 i:=by
 obtain⟨mm,h1,h2,h3,_⟩:=CD _ _ _ hc;intro l;induction l with
 | nil=>intro _ _ _ _ i hi;cases hi
 | cons d l ih=>
  intro pre h Pf hl
  have hd:On c.1 d:=by
   by_cases ZJ:On c.1 d
   ·exact ZJ
   ·obtain⟨hl1,DK⟩:=hl d (.head _)
    have hr:d∈Region.ready .any ops c.1:=kN.2 ⟨⟨by rw [h2,hsz];exact DK,ZJ⟩,DK,fun e he=>(h.1 e he).elim (fun h=>(h3 e).2 (.inl h)) (Pf e)⟩;rw [xC d hr]at hl1;cases hl1
  intro i hi;rcases List.mem_cons.1 hi with rfl | hi
  ·exact hd
  ·exact ih (d::pre) h.2 (fun e he=>by
    rcases List.mem_cons.1 he with rfl | he
    ·exact hd
    ·exact Pf e he) (fun i hi=>hl i (.tail _ hi)) i hi
theorem Ep{P:Program}{i:Nat} (h:kZ P ops i=true):i<ops.size:=by
 unfold kZ at h;split at h
 ·rename_i o ho;exact(Array.getElem?_eq_some_iff.1 ho).1
 ·cases h
section inv
variable{U0:Rn}{wa:World}{L:Array Bool}{taken:List Nat}{m:Nat}{L':Array Bool}{X:List (Nat×Option Nat)}{J:List (Nat×Value)}{U:Rn}{A:bC}{a:Act}{S:St}{w:World}{c:Array Bool×List Nat}
theorem Inv.aEG (h:Inv E w0 ops U0 wa L taken m L' X J U A a S w) (hc:LF E.P ops ops.size L []=c) (xC:∀i∈Region.ready .any ops c.1,kZ E.P ops i=false){j:Nat} (hj:j∈Region.ready .any ops L'):j∈c.2\/j∈Region.ready .any ops c.1:=by
 obtain⟨mm,h1,h2,h3,h4,h5,h6⟩:=CD _ _ _ hc;have e2:c.2=mm:=by rw [h1];rfl
 obtain⟨⟨hj1,Tt⟩,hj3,hj4⟩:=kN.1 hj
 have hX:∀p∈X,On c.1 p.1:=fun p hp=>aBn h.szL hc xC _ [] h.xr (by simp) (fun i hi=>by
  rw [List.mem_reverse,List.mem_map]at hi;obtain⟨p,hp,rfl⟩:=hi;exact⟨(h.xl p hp).2.1,Ep (h.xl p hp).2.1⟩) p.1 (by rw [List.mem_reverse,List.mem_map];exact⟨p,hp,rfl⟩)
 have aN5:∀e,On L' e->On c.1 e:=fun e he=>by
  rcases(h.on e).1 he with h' | ⟨p,hp,rfl⟩
  ·exact(h3 e).2 (.inl h')
  ·exact hX p hp
 by_cases ZJ:On c.1 j
 ·rcases(h3 j).1 ZJ with h' | h'
  ·exact aX ((h.on j).2 (.inl h')) Tt
  ·exact .inl (by rw [e2];exact h')
 ·exact .inr (kN.2 ⟨⟨by rw [h2,h.szL];exact hj3,ZJ⟩,hj3,fun e he=>aN5 e (hj4 e he)⟩)
theorem Inv.yl (h:Inv E w0 ops U0 wa L taken m L' X J U A a S w):∀p∈J,Yl E.P ops p.1 p.2 a w:=fun p hp=>(h.jf p hp).2.yl
theorem Inv.aEH{ro:Option Nat}{Q:Exit->Act->World->Prop} (hc:kT E.P w0 E.call) (hr:nV E.P w0 E.round) (xA:Plain ops) (Hj:w0.heap.size<=wa.heap.size) (PZ:Ask E ops L taken A S c){r:Nat}{o:Oper} (ho:ops[r]? =some o)
 (tA:Region.ready .any ops c.1=[r]) (Xh:kZ E.P ops r=false) {D qT:List Nat} (hD:D=uS E.P ops c.2 r) (ht':qT=taken.filter fun p=> !dep ops r p&&D.all fun d=> !dep ops d p) (qS:qT.all (leaves ops o)=true)
 {rest:bC->St->Bool} (hk:nW E ops D A S (fun A S=>Ca E ops o A S fun A S=>zC E ops A S (qT.filter (jC ops)) (rest A S))=true)
 (ih:∀{m:Nat} {L':Array Bool} {X:List (Nat×Option Nat)} {J:List (Nat×Value)} {U:Rn} {A:bC} {a:Act} {S:St} {w:World},rest A S=true->Inv E w0 ops U0 wa ((D.foldl (fun t i=>t.setIfInBounds i true) L).setIfInBounds r true) qT m L' X J U A a S w->DL ro E.P ops Q m J L' a w):
 ∀(m:Nat) {L':Array Bool} {X:List (Nat×Option Nat)} {J:List (Nat×Value)} {a:Act} {w:World},Inv E w0 ops U0 wa L taken m L' X J U A a S w->DL ro E.P ops Q m J L' a w:=by
 obtain⟨mm,h1,h2,h3,h4,h5,h6⟩:=CD _ _ _ PZ.close;have e2:c.2=mm:=by rw [h1];rfl
 rw [<-e2]at h3 h4 h5 h6;have hrc:r∈Region.ready .any ops c.1:=by rw [tA];exact .head _
 obtain⟨⟨hr1,hr2⟩,hr3,hr4⟩:=kN.1 hrc
 have xC:∀i∈Region.ready .any ops c.1,kZ E.P ops i=false:=fun i hi=>by
  rw [tA]at hi;rw [List.mem_singleton.1 hi];exact Xh
 have hrL:¬On L r:=fun h=>hr2 ((h3 r).2 (.inl h));have aHz:CC ops L [] (c.2++[r]):=h6.snoc fun e he=>((h3 e).1 (hr4 e he)).imp id fun h=> .inr h
 have hrn:∀{m:Nat} {L':Array Bool} {X:List (Nat×Option Nat)} {J:List (Nat×Value)} {a:Act} {w:World},Inv E w0 ops U0 wa L taken m L' X J U A a S w->¬On L' r:=fun h ZJ=>by
  rcases(h.on r).1 ZJ with h' | ⟨p,hp,e⟩
  ·exact hrL h'
  ·have:=(h.xl p hp).2.1
   rw [e,Xh]at this;cases this
 intro m;induction m with
 | zero=>
  intro L' X J a w h;exact aX (Pg h.fuel (by rw [h.sz];exact hr3)) (hrn h)
 | succ m ihm=>
  intro L' X J a w h;have hrn:=hrn h;refine⟨h.yl,fun Tf=>?_,fun j hj=>?_⟩
  ·obtain⟨i,_,hi⟩:=aHz.ready h.sz (fun j hj=>(h.on j).2 (.inl hj)) (by simp) (fun i hi=>by
    rcases List.mem_append.1 hi with hi | hi
    ·exact Ep (h4 i hi).1
    ·rw [List.mem_singleton.1 hi];exact hr3) ⟨r,by simp,hrn⟩
   rw [Tf]at hi;cases hi
  ·rcases h.aEG PZ.close xC hj with Tt | Tt
   ·exact Inv.pick xA Hj PZ h Tt hj fun a' w' X' h'=>ihm h'
   ·rw [tA]at Tt
    have e:=List.mem_singleton.1 Tt;subst e;obtain⟨⟨aQc,_⟩,_,hjw⟩:=kN.1 hj
    have hDX:∀i∈D,∃p∈X,p.1=i:=fun i hi=>by
     rw [hD]at hi;obtain⟨⟨IW,hi2⟩,_⟩:=HL.1 hi;have ZJ:On L' i:=h.down.Ae _ _ _ hjw hi2;rcases(h.on i).1 ZJ with h7 | h7
     ·exact aX h7 (h4 i IW).2.2
     ·exact h7
    have hDn:D.Nodup:=by rw [hD];exact(h5.filter _).filter _
    have hDg:∀i∈D,IL E.P ops i=false:=fun i hi=>by rw [hD]at hi;exact(HL.1 hi).2
    obtain⟨U1,A1,S1,k1,k2,k3,k4,k5⟩:=SI Hj D hk h.hs h.RF hDX hDg h.xf h.xb hDn;have hX:∀q,q∈X.filter (fun q=> !D.contains q.1)↔q∈X/\q.1∉D:=fun q=>by rw [Bl];simp
    have aQd:∀(D:List Nat) (t:Array Bool),t.size=ops.size->(∀i∈D,i<ops.size)->(D.foldl (fun t i=>t.setIfInBounds i true) t).size=ops.size/\∀j,On (D.foldl (fun t i=>t.setIfInBounds i true) t) j↔On t j\/j∈D:=by
     intro D;induction D with
     | nil=>intro t ht _;exact⟨ht,fun j=>by simp⟩
     | cons d D ihD=>
      intro t ht hl;have hdl:d<t.size:=by rw [ht];exact hl d (.head _)
      obtain⟨g1,g2⟩:=ihD (t.setIfInBounds d true) (Array.size_setIfInBounds.trans ht) fun i hi=>hl i (.tail _ hi);refine⟨g1,fun j=>(g2 j).trans ?_⟩;rw [On.set hdl,List.mem_cons];constructor
      ·rintro((h | h) | h)
       ·exact .inl h
       ·exact .inr (.inl h)
       ·exact .inr (.inr h)
      ·rintro(h | h | h)
       ·exact .inl (.inl h)
       ·exact .inl (.inr h)
       ·exact .inr h
    obtain⟨f1,f2⟩:=aQd D L h.szL fun i hi=>by
     rw [hD]at hi;exact Ep (h4 i (HL.1 hi).1.1).1
    have aBo:j<(D.foldl (fun t i=>t.setIfInBounds i true) L).size:=by rw [f1];exact hr3
    have go:∀v' w',Next E.P w0 U1 w (fun A S=>zC E ops A S (qT.filter (jC ops)) (rest A S)) (a.put o.dst v') w'->
     DL ro E.P ops Q m (J.filter fun p=> !dep ops j p.1) (L'.setIfInBounds j true) (a.put o.dst v') w':=by
     rintro v' w' ⟨U',A',S',g1,g2,g3⟩
     obtain⟨z1,z2⟩:=Ci g2 g1 (fun i hi=>(List.mem_filter.1 hi).2);have hap:∀p∈X,∀q,ops[p.1]? =some q->∀t,o.dst=some t->t∉q.looksAt ops/\q.dst≠some t:=fun p hp=>h.apart ho hrn hp;have aRZ:∀p∈X,∀i q,eV E.P ops p.1=some i->ops[i]? =some q->∀t,o.dst=some t->t∉q.looksAt ops/\q.dst≠some t:=fun p hp=>h.aCZ ho hrn hp;refine ih z1 (X:=X.filter fun q=> !D.contains q.1) ⟨g2,k3.trans g3,Array.size_setIfInBounds.trans f1,Array.size_setIfInBounds.trans h.sz,fun i=>?_,h.down.set hj,fun q hq=>?_,fun q hq=>?_,fun q hq r hr=>h.xd q ((hX q).1 hq).1 r ((hX r).1 hr).1,fun q hq r hr=>h.xb q ((hX q).1 hq).1 r ((hX r).1 hr).1,fun q hq i hi=>?_,fun i hi=>?_,fun p hp=>?_,Ye aQc hrn h.fuel,?_,fun q hq r hr=>h.jx q (List.mem_filter.1 hq).1 r ((hX r).1 hr).1⟩
     ·rw [On.set aQc,On.set aBo,h.on,f2]
      constructor
      ·rintro((h' | ⟨p,hp,h'⟩) | h')
       ·exact .inl (.inl (.inl h'))
       ·by_cases e:i∈D
        ·exact .inl (.inl (.inr e))
        ·exact .inr ⟨p,(hX p).2 ⟨hp,by rw [h'];exact e⟩,h'⟩
       ·exact .inl (.inr h')
      ·rintro(((h' | h') | h') | ⟨p,hp,h'⟩)
       ·exact .inl (.inl h')
       ·exact .inl (.inr (hDX i h'))
       ·exact .inr h'
       ·exact .inl (.inr ⟨p,((hX p).1 hp).1,h'⟩)
     ·obtain⟨q1,q2⟩:=(hX q).1 hq
      exact((k4 q q1 q2).put xA (hap q q1) (aRZ q q1)).RF g3
     ·obtain⟨q1,q2⟩:=(hX q).1 hq
      obtain⟨x1,x2,x3⟩:=h.xl q q1;refine⟨x1,x2,fun hh=>?_⟩;rcases(On.set aBo).1 hh with hh | hh
      ·rcases(f2 _).1 hh with hh | hh
       ·exact x3 hh
       ·exact q2 hh
      ·exact hrn (hh▸(h.on _).2 (.inr ⟨q,q1,rfl⟩))
     ·obtain⟨r,hr,hri⟩:=h.xs q ((hX q).1 hq).1 i hi
      refine⟨r,(hX r).2 ⟨hr,fun e=>?_⟩,hri⟩;have:=Ms hi;rw [<-hri,hDg _ e]at this;cases this
     ·rcases(On.set aBo).1 hi with hi | hi
      ·rcases(f2 i).1 hi with hi | hi
       ·exact h.lg i hi
       ·exact hDg i hi
      ·rw [hi]
       cases hgj:IL E.P ops j with
       | false=>rfl
       | true=>rw [aGm hgj]at Xh;cases Xh
     ·obtain⟨hp,hdp⟩:=List.mem_filter.1 hp
      obtain⟨Vk,hkn⟩:=h.jf p hp
      have aN8:p.1∈qT:=by
       rw [ht',Bl];refine⟨Vk,?_⟩;simp only [hdp,Hs,KO];intro d hd;obtain⟨q,hq,rfl⟩:=hDX d hd;rw [h.jx p hp q hq];rfl
      refine⟨aN8,?_⟩;have hlv:=List.all_eq_true.1 qS p.1 aN8;rcases hkn with ⟨q,k1,k2,k3⟩ | ⟨q,d,k1,k2,k3,k4,k5⟩
      ·exact .inl ⟨q,k1,k2,fun w=>(Yl.put xA (fun q hq t ht=>(xQ hlv hq t ht).1)).2 (k3 w)⟩
      ·obtain⟨o2,d2,u',y1,y2,y3,y4⟩:=z2 p.1 (by
        rw [Bl];refine⟨aN8,?_⟩;unfold jC;rw [k1];simp [k2,k4])
       rw [k1]at y1;injection y1 with y1;subst y1;rw [k4]at y2;injection y2 with y2;subst y2;have oJ:o.dst≠some d:=fun e=>(xQ hlv k1 d e).2 k4;have hu:u'=p.2:=k5 u' (by rw [<-y3,uE oJ]);subst hu;refine .inr ⟨q,d,k1,k2,y4,k4,fun u hu=>?_⟩;rw [y3]at hu;injection hu with hu;exact hu.symm
     ·have e1:((X.filter fun q=> !D.contains q.1).map Prod.fst).reverse=(X.map Prod.fst).reverse.filter fun i=> !D.contains i:=by
       rw [List.filter_reverse,List.filter_map];rfl
      rw [e1];refine h.xr.filter (fun e he=>(On.set aBo).2 (.inl ((f2 e).2 (.inl he)))) (fun e he=>by cases he) fun e _ he=>(On.set aBo).2 (.inl ((f2 e).2 (.inr (by simpa using he))))
    unfold Ca at k1;have k1:=SC k2.act k1;unfold wpOpIn;simp only [ho];cases hw:Region.wanted o (yielded ops a.tmps)with
    | true=>
     rw [hw]at k1;have k1:AD E o A1 S1 (fun v S=>mJ A1 o.dst v fun A=>zC E ops A S (qT.filter (jC ops)) (rest A S))=true:=k1;simp only [if_true];exact aHL hc hr k2.rel k2.act k1 fun v' w' hg=>go v' w' (WF (k:=fun A S=>zC E ops A S (qT.filter (jC ops)) (rest A S)) k2 hg)
    | false=>
     rw [hw]at k1;have k1:mJ A1 o.dst undef (fun A=>zC E ops A S1 (qT.filter (jC ops)) (rest A S1))=true:=k1;simp only [Ho,if_false];exact⟨fun _ _=>trivial,go undef w (WF (k:=fun A S=>zC E ops A S (qT.filter (jC ops)) (rest A S)) k2 ⟨U1,undef,S1,k1,.undef,k2.rel,.refl U1 w⟩)⟩
theorem Inv.aEI{ro:Option Nat}{Q:Exit->Act->World->Prop} (xA:Plain ops) (Hj:w0.heap.size<=wa.heap.size) (PZ:Ask E ops L taken A S c) (tA:Region.ready .any ops c.1=[]){k:bC->St->Bool} (hk:nW E ops (c.2.filter fun i=> !IL E.P ops i) A S k=true)
 (hQ:∀a' w',Next E.P w0 U0 wa k a' w'->Q .normal a' w'):
 ∀(m:Nat) {L':Array Bool} {X:List (Nat×Option Nat)} {J:List (Nat×Value)} {a:Act} {w:World},Inv E w0 ops U0 wa L taken m L' X J U A a S w->DL ro E.P ops Q m J L' a w:=by
 obtain⟨mm,h1,h2,h3,h4,h5,h6⟩:=CD _ _ _ PZ.close;have e2:c.2=mm:=by rw [h1];rfl
 rw [<-e2]at h3 h4 h5 h6;have xC:∀i∈Region.ready .any ops c.1,kZ E.P ops i=false:=fun i hi=>by rw [tA]at hi;cases hi
 have end_:∀{m:Nat} {L':Array Bool} {X:List (Nat×Option Nat)} {J:List (Nat×Value)} {a:Act} {w:World},Inv E w0 ops U0 wa L taken m L' X J U A a S w->Region.ready .any ops L'=[]->Q .normal a w:=by
  intro m L' X J a w h Tf
  have hX:∀i∈c.2,∃p∈X,p.1=i:=fun i hi=>by
   have ZJ:On L' i:=by
    by_cases ZJ:On L' i
    ·exact ZJ
    ·obtain⟨j,_,hj⟩:=h6.ready h.sz (fun j hj=>(h.on j).2 (.inl hj)) (by simp) (fun i hi=>Ep (h4 i hi).1) ⟨i,hi,ZJ⟩
     rw [Tf]at hj;cases hj
   rcases(h.on i).1 ZJ with h7 | h7
   ·exact aX h7 (h4 i hi).2.2
   ·exact h7
  obtain⟨U1,A1,S1,k1,k2,k3,_⟩:=SI Hj _ hk h.hs h.RF (fun i hi=>hX i (List.mem_filter.1 hi).1) (fun i hi=>by simpa using(List.mem_filter.1 hi).2) h.xf h.xb (h5.filter _);exact hQ a w ⟨U1,A1,S1,k1,k2,k3⟩
 intro m;induction m with
 | zero=>
  intro L' X J a w h
  have Tf:Region.ready .any ops L'=[]:=by
   cases hl:Region.ready .any ops L' with
   | nil=>rfl
   | cons j l=>
    have hj:j∈Region.ready .any ops L':=by rw [hl];exact .head _
    obtain⟨⟨hj1,Tt⟩,_⟩:=kN.1 hj;exact aX (Pg h.fuel hj1) Tt
  exact⟨h.yl,Tf,end_ h Tf⟩
 | succ m ihm=>
  intro L' X J a w h;refine⟨h.yl,end_ h,fun j hj=>?_⟩;rcases h.aEG PZ.close xC hj with Tt | Tt
  ·exact Inv.pick xA Hj PZ h Tt hj fun a' w' X' h'=>ihm h'
  ·rw [tA]at Tt;cases Tt
end inv
end sound
section sound
variable{E:Env}{w0:World}{ops:Array Oper}
theorem Yh{U:Rn}{a:Act}{w:World}{L:Array Bool}{taken:List Nat}{A:bC}{S:St}{c:Array Bool×List Nat} (hs:SR E.P w0 U A a S w) (hc:LF E.P ops ops.size L []=c)
 (PL:(c.2.all fun d=>DO ops d&&(match ops[d]? with | some o=>FV ops o&&(taken.filter fun p=> !dep ops d p).all (leaves ops o) | none=>false))=true) {K:Bool}
 (hk:zC E ops A S (match c.2 with | []=>[] | _=>taken.filter (jC ops)) (UV E ops A S (c.2.map fun d=>(d,uS E.P ops c.2 d)) K)=true):Ask E ops L taken A S c/\K=true:=by
 have hl:∀i∈(match c.2 with | []=>[] | _=>taken.filter (jC ops)),jC ops i=true:=by
  intro i hi;cases h:c.2 with
  | nil=>rw [h]at hi;cases hi
  | cons d l=>rw [h]at hi;exact(List.mem_filter.1 hi).2
 obtain⟨h1,_⟩:=Ci hs hk hl;obtain⟨h2,h3⟩:=aGk h1;refine⟨⟨hc,fun d hd=>?_,⟨_,_,hk,hl,fun oJ i hi hil=>?_⟩,fun d hd=>?_⟩,h2⟩
 ·have:=List.all_eq_true.1 PL d hd
  simp only [dR]at this;refine⟨this.1,?_⟩;have h4:=this.2;split at h4
  ·rename_i o ho
   simp only [dR]at h4;exact⟨o,ho,h4.1,fun p hp hdp=>List.all_eq_true.1 h4.2 p (List.mem_filter.2 ⟨hp,by rw [hdp];rfl⟩)⟩
  ·cases h4
 ·cases h:c.2 with
  | nil=>exact aX h oJ
  | cons d l=>exact List.mem_filter.2 ⟨hi,hil⟩
 ·obtain⟨o,e,q1,q2,q3,q4⟩:=h3 (d,uS E.P ops c.2 d) (List.mem_map.2 ⟨d,hd,rfl⟩)
  exact⟨o,e,q1,q2,q3,q4⟩
theorem Pi{U:Rn}{a:Act}:∀{l:List Nat} {A:bC} {k:bC->Bool},BI E.P U A a->WO ops l A k=true->∃A',k A'=true/\BI E.P U A' a/\A'.marks=A.marks:=by
 intro l;induction l with
 | nil=>intro A k hA hk;exact⟨A,hk,hA,rfl⟩
 | cons i l ih=>
  intro A k hA hk;unfold WO at hk;rw [bU]at hk;split at hk
  ·split at hk
   ·rename_i o ho d hd
    rw [aEC]at hk
    obtain⟨A',h1,h2,h3⟩:=ih (A:={A with tmps:=⟨A.tmps.t.del d,A.tmps.n⟩}) ⟨⟨hA.tmps.1,fun j v hj=>hA.tmps.2 j v (by
     have hj:(A.tmps.t.del d).get j=some v:=hj;rw [Ei]at hj;split at hj
     ·cases hj
     ·exact hj)⟩,hA.g⟩ hk
    exact⟨A',h1,h2,h3⟩
   ·cases hk
  ·cases hk
end sound
section
variable{β:Type}
def Mw (l:List Bool) (k:List Bool->β):β:=
 gW (β:=(List Bool->β)->β) (fun k=>k []) (fun b _ ih k=>fX b (ih fun t=>k (true::t)) (ih fun t=>k (false::t))) l k
theorem aC5:∀(l:List Bool) (k:List Bool->β),Mw l k=k l:=by
 intro l;induction l with
 | nil=>intro k;rfl
 | cons b l ih=>
  intro k;show fX b (Mw l fun t=>k (true::t)) (Mw l fun t=>k (false::t))=_;rw [ih,ih];cases b<;>rfl
def Ii (t:Array Bool) (k:Array Bool->β):β:=Mw t.toList fun l=>k ⟨l⟩
theorem QA (t:Array Bool) (k:Array Bool->β):Ii t k=k t:=aC5 _ _
def Ij (P:Program) (ops:Array Oper):List Nat->Array Bool->List Nat->(Array Bool->List Nat->β)->β
 | [],t,l,k=>k t l
 | i::is,t,l,k=>match kZ P ops i&&NN ops t i with
  | true=>Ii (t.setIfInBounds i true) fun t=>Ij P ops is t (l++[i]) k
  | false=>Ij P ops is t l k
theorem Vn (P:Program) (ops:Array Oper):∀(is:List Nat) (t:Array Bool) (l:List Nat) (k:Array Bool->List Nat->β),Ij P ops is t l k=k (LE P ops is t l).1 (LE P ops is t l).2:=by
 intro is;induction is with
 | nil=>intro t l k;rfl
 | cons i is ih=>
  intro t l k;unfold Ij LE;cases kZ P ops i&&NN ops t i with
  | true=>simp only [QA,ih]
  | false=>simp only [ih]
end
def aH5 (l:List Nat):Nat:=l.foldl (fun m t=>Nat.lor m (Nat.shiftLeft 1 t)) 0
theorem Vo{l:List Nat}{t:Nat} (h:t∈l):Nat.testBit (aH5 l) t=true:=by
 unfold aH5
 have key:∀(l:List Nat) (m:Nat),(t∈l\/Nat.testBit m t=true)->Nat.testBit (l.foldl (fun m t=>Nat.lor m (Nat.shiftLeft 1 t)) m) t=true:=by
  intro l;induction l with
  | nil=>intro m h;rcases h with h | h
         ·cases h
         ·exact h
  | cons u l ih=>
   intro m h;refine ih _ ?_;show t∈l\/Nat.testBit (m ||| 1 <<< u) t=true;rw [Nat.testBit_or,VL,Nat.one_shiftLeft,Nat.testBit_two_pow];rcases h with h | h
   ·rcases List.mem_cons.1 h with rfl | h
    ·exact .inr (.inr (by simp))
    ·exact .inl h
   ·exact .inr (.inl h)
 exact key l 0 (.inl h)
def aH6 (ops:Array Oper):List (Nat×Option Nat):=ops.toList.map fun o=>(aH5 (o.looksAt ops),o.dst)
def aBw (ops:Array Oper) (listed:Array Bool) (i:Nat):Bool:=match(aH6 ops)[i]? with
 | none=>false
 | some (a,d)=>(List.range ops.size).all fun j=>(match(aH6 ops)[j]? with
  | none=>true
  | some (lk,e)=>(match d with | some d=> !Nat.testBit lk d&&(match e with | some e=> !Nat.beq e d | none=>true) | none=>true)&&(match e with | some e=> !Nat.testBit a e | none=>true)) || (j==i || listed.getD j true || dep ops j i)
theorem Pq{ops:Array Oper}{listed:Array Bool}{i:Nat} (h:aBw ops listed i=true):Region.free .any ops listed i=true:=by
 unfold aBw aH6 at h;unfold Region.free;rw [dO]at h;cases hi:ops[i]? with
 | none=>
  have:ops.toList[i]? =none:=by simpa using hi
  rw [this]at h;cases h
 | some oi=>
  have hil:ops.toList[i]? =some oi:=by simpa using hi
  rw [hil]at h;simp only [CY]at h;simp only [KO,List.mem_range]at h ⊢;intro j hj;have h1:=h j hj;have hjl:ops.toList[j]? =some ops[j]:=by simp [hj]
  rw [dO,hjl]at h1;rw [Hl hj];simp only [CY,VL]at h1 ⊢;rcases h1 with h1 | (h1 | h1) | h1
  ·refine .inr (.inr ?_)
   unfold Oper.apart;simp only [dR]at h1 ⊢;obtain⟨g1,g2⟩:=h1;constructor
   ·cases hd:oi.dst with
    | none=>rfl
    | some d=>
     rw [hd]at g1;simp only [dR,KN]at g1 ⊢;refine⟨?_,?_⟩
     ·cases hc:(ops[j].looksAt ops).contains d with
      | false=>rfl
      | true=>rw [Vo (List.contains_iff_mem.1 hc)]at g1;cases g1.1
     ·cases he:ops[j].dst with
      | none=>rfl
      | some e=>
       rw [he]at g1;have g3:=g1.2;simp only [KN]at g3;have:e≠d:=VH g3;simpa using this
   ·cases he:ops[j].dst with
    | none=>rfl
    | some e=>
     rw [he]at g2;simp only [KN]at g2 ⊢;cases hc:(oi.looksAt ops).contains e with
     | false=>rfl
     | true=>rw [Vo (List.contains_iff_mem.1 hc)]at g2;cases g2
  ·exact .inl (.inl h1)
  ·exact .inl (.inr h1)
  ·refine .inr (.inl ?_)
   unfold dep at h1;rw [Hl hj]at h1;exact h1
def QB (P:Program) (ops:Array Oper):Nat->List Nat->Array Bool->List Nat->Option (List yT)
 | 0,_,_,_=>none
 | f+1,i::is,listed,taken=>match ops[i]? with
  | some o=>match neutral P o&&NN ops listed i with
   | true=>match aBw ops listed i&&FV ops o&&taken.all (leaves ops o)&&(qR P o || jC ops i)with
    | true=>(QB P ops f is (listed.setIfInBounds i true) (i::taken)).map (.take i:: ·)
    | false=>QB P ops f is listed taken
   | false=>QB P ops f is listed taken
  | none=>none
 | f+1,[],listed,taken=>
  let c:=LF P ops ops.size listed []
  let nB:=c.2.map fun d=>(d,uS P ops c.2 d)
  let BO:=match c.2 with | []=>[] | _=>taken.filter (jC ops)
  match c.2.all fun d=>DO ops d&&(match ops[d]? with | some o=>FV ops o&&(taken.filter fun p=> !dep ops d p).all (leaves ops o) | none=>false)with
  | true=>match Region.ready .any ops c.1 with
   | []=>some [.fin BO nB (c.2.filter fun i=> !IL P ops i)]
   | [r]=>match ops[r]? with
    | some o=>
     let D:=uS P ops c.2 r
     let qT:=taken.filter fun p=> !dep ops r p&&D.all fun d=> !dep ops d p
     match qT.all (leaves ops o)&& !kZ P ops r with
     | true=>(QB P ops f (List.range ops.size) ((D.foldl (fun t i=>t.setIfInBounds i true) listed).setIfInBounds r true) qT).map (.Vj BO nB D r (qT.filter (jC ops)):: ·)
     | false=>none
    | none=>none
   | _=>none
  | false=>none
def Kg (P:Program) (ops:Array Oper):Nat->List Nat->Array Bool->List Nat->Option (List yT)
 | 0,_,_,_=>none
 | f+1,i::is,listed,taken=>match ops[i]? with
  | some o=>match neutral P o&&NN ops listed i with
   | true=>match aBw ops listed i&&FV ops o&&taken.all (leaves ops o)&&(qR P o || jC ops i)with
    | true=>Ii (listed.setIfInBounds i true) fun t=>(Kg P ops f is t (i::taken)).map (.take i:: ·)
    | false=>Kg P ops f is listed taken
   | false=>Kg P ops f is listed taken
  | none=>none
 | f+1,[],listed,taken=>
  Ij P ops (List.range ops.size) listed [] fun c1 c2=>
  let nB:=c2.map fun d=>(d,uS P ops c2 d)
  let BO:=match c2 with | []=>[] | _=>taken.filter (jC ops)
  match c2.all fun d=>DO ops d&&(match ops[d]? with | some o=>FV ops o&&(taken.filter fun p=> !dep ops d p).all (leaves ops o) | none=>false)with
  | true=>match Region.ready .any ops c1 with
   | []=>some [.fin BO nB (c2.filter fun i=> !IL P ops i)]
   | [r]=>match ops[r]? with
    | some o=>
     let D:=uS P ops c2 r
     let qT:=taken.filter fun p=> !dep ops r p&&D.all fun d=> !dep ops d p
     match qT.all (leaves ops o)&& !kZ P ops r with
     | true=>Ii ((D.foldl (fun t i=>t.setIfInBounds i true) listed).setIfInBounds r true) fun t=>(Kg P ops f (List.range ops.size) t qT).map (.Vj BO nB D r (qT.filter (jC ops)):: ·)
     | false=>none
    | none=>none
   | _=>none
  | false=>none
theorem aH7 (P:Program) (ops:Array Oper):∀(f:Nat) (is:List Nat) (listed:Array Bool) (taken:List Nat),Kg P ops f is listed taken=QB P ops f is listed taken:=by
 intro f;induction f with
 | zero=>intro _ _ _;rfl
 | succ f ih=>
  intro is listed taken;cases is with
  | nil=>unfold Kg QB;simp only [QA,Vn,ih];rfl
  | cons i is=>unfold Kg QB;simp only [QA,ih]
def Er (P:Program) (ops:Array Oper):Option (List yT):=match LC ops with | true=>Kg P ops ((ops.size+1)*(ops.size+2)) (List.range ops.size) ⟨List.replicate ops.size false⟩ [] | false=>none
section sound
variable{E:Env}{w0:World}{ops:Array Oper}
theorem aBx (hc:kT E.P w0 E.call) (hr:nV E.P w0 E.round) (xA:Plain ops){ro:Option Nat}{Q:Exit->Act->World->Prop} (hQp:∀c a w,¬Q (.panic c) a w){k:bC->St->Bool}{U0:Rn}{wa:World} (Hj:w0.heap.size<=wa.heap.size)
 (hQ:∀a' w',Next E.P w0 U0 wa k a' w'->Q .normal a' w'):∀(f:Nat) (is:List Nat) (L:Array Bool) (taken:List Nat) (steps:List yT),QB E.P ops f is L taken=some steps->
 ∀{m:Nat} {L':Array Bool} {X:List (Nat×Option Nat)} {J:List (Nat×Value)} {U:Rn} {A:bC} {a:Act} {S:St} {w:World},mE E ops steps A S k=true->Inv E w0 ops U0 wa L taken m L' X J U A a S w->DL ro E.P ops Q m J L' a w:=by
 intro f;induction f with
 | zero=>intro is L taken steps hp;cases hp
 | succ f ih=>
  intro is L taken steps hp m L' X J U A a S w hk h;cases is with
  | cons i is=>
   unfold QB at hp;split at hp
   ·rename_i o ho
    split at hp
    ·rename_i Ck
     rw [dR]at Ck;obtain⟨Ck,hrd⟩:=Ck;have LG:=WP.1 hrd;split at hp
     ·rename_i Yf
      simp only [dR]at Yf;obtain⟨⟨⟨IV,NJ⟩,qS⟩,DQ⟩:=Yf;cases xO:QB E.P ops f is (L.setIfInBounds i true) (i::taken)with
      | none=>rw [xO]at hp;cases hp
      | some rest=>
       rw [xO]at hp;injection hp with hp;subst hp;unfold mE at hk;rw [bU]at hk;simp only [ho]at hk;exact Inv.aBm hQp xA Hj ho LG Ck (Pq IV) NJ qS DQ (rest:=fun A S=>mE E ops rest A S k) hk (fun wO h'=>ih _ _ _ _ xO wO h') h
     ·exact ih _ _ _ _ hp hk h
    ·exact ih _ _ _ _ hp hk h
   ·cases hp
  | nil=>
   unfold QB at hp;generalize Hi:LF E.P ops ops.size L []=c at hp;simp only at hp;split at hp
   ·rename_i PL
    split at hp
    ·rename_i tA
     injection hp with hp;subst hp;unfold mE at hk;rw [bU]at hk;simp only at hk;obtain⟨PZ,hk⟩:=Yh h.hs Hi PL hk;exact Inv.aEI xA Hj PZ tA hk hQ m h
    ·rename_i r tA
     split at hp
     ·rename_i o ho
      split at hp
      ·rename_i qS
       simp only [dR,KN]at qS;obtain⟨qS,Xh⟩:=qS;generalize xO:QB E.P ops f _ _ _=rest at hp;cases rest with
       | none=>cases hp
       | some rest=>
        injection hp with hp;subst hp;unfold mE at hk;rw [bU]at hk;simp only [ho]at hk;obtain⟨PZ,hk⟩:=Yh h.hs Hi PL hk;exact Inv.aEH hc hr xA Hj PZ ho tA Xh rfl rfl qS (rest:=fun A S=>mE E ops rest A S k) hk (fun wO h'=>ih _ _ _ _ xO wO h') m h
      ·cases hp
     ·cases hp
    ·cases hp
   ·cases hp
def Kd (E:Env) (ops:Array Oper) (A:bC) (S:St) (k:bC->St->Bool):Bool:=
 match Er E.P ops with
 | some l=>WO ops (PY l) A fun A=>mE E ops l A S k
 | none=>false
theorem aH0 (hc:kT E.P w0 E.call) (hr:nV E.P w0 E.round) (hm:E.P.follows .mixedOrders=true):aF7 E w0 (Kd E):=by
 intro ops A S k U a w ro id Q hk hs hQ;unfold Kd at hk;split at hk
 ·rename_i l hl
  unfold Er at hl;split at hl
  ·rename_i aC6
   rw [aH7]at hl;have hl:QB E.P ops ((ops.size+1)*(ops.size+2)) (List.range ops.size) (Array.replicate ops.size false) []=some l:=hl;have xA:=Ad aC6;obtain⟨A',hk,hA',hmk⟩:=Pi hs.act hk
   let Q0:Exit->Act->World->Prop:=fun e a' w'=>e= .normal/\Next E.P w0 U w k a' w'
   have xC:∀j,¬On (Array.replicate ops.size false) j:=fun j h=>by
    unfold On at h;rcases BF j ops.size with h' | h'
    ·simp [h']at h
    ·simp [h']at h
   have aOe:rem (Array.replicate ops.size false)<=ops.size:=by
    unfold rem;refine zA (List.countP_le_length) ?_;simp
   have h:=aBx hc hr xA (ro:=ro) (Q:=Q0) (fun c a w h=>by cases h.1) (U0:=U) (wa:=w) hs.rel.base.size (fun a' w' h=>⟨rfl,h⟩) _ _ _ _ l hl (m:=ops.size) (X:=[]) (J:=[]) hk
    ⟨⟨hA',hs.rel.drew,by rw [hmk];exact hs.marks⟩,xM.drew U w,Array.size_replicate,Array.size_replicate,fun j=>by simp,fun j h=>aX h (xC j),by simp,by simp,by simp,by simp,by simp,fun j h=>aX h (xC j),by simp,aOe,trivial,by simp⟩
   exact wpIn_mono (wpIn_region_any hm h.any) fun e a' w' hq=>by obtain⟨rfl,hn⟩:=hq;exact hQ a' w' hn
  ·cases hl
 ·cases hk
end sound
def aLl (P:Program) (ops:Array Oper) (i:Nat) (o:Oper):OpW:=match eV P ops i with
 | none=>opW P o
 | some j=>match ops[j]? with
  | some q=>⟨fun E A S K=>(opW P q).f E A S fun s S'=>match s with
   | .slice (some ⟨b,0,none⟩) _ _=>match Nat.beq b S.n with
    | true=>mJ A q.dst s fun A'=>(opW P o).f E A' S' fun v _=>match v with
     | .string _=>K v S
     | _=>false
    | false=>false
   | _=>false⟩
  | none=>⟨fun _ _ _ _=>false⟩
theorem aEJ (E:Env) (ops:Array Oper) (i:Nat) (o:Oper) (A:bC) (S:St) (K:VK):(aLl E.P ops i o).f E A S K=IM E ops i o A S K:=by
 unfold aLl IM;cases eV E.P ops i with
 | none=>exact FW E o A S K
 | some j=>
  simp only;cases ops[j]? with
  | none=>rfl
  | some q=>simp only [FW]<;>rfl
def aBp (P:Program) (ops:Array Oper) (l:List Nat):Pb:=
 gW (β:=Pb) ⟨fun _ A S k=>k A S⟩ (fun i _ ih=>match ops[i]? with
  | some o=>⟨fun E A S k=>(aLl P ops i o).f E A S fun v S=>aN3 o.dst v A fun A=>ih.f E A S k⟩
  | none=>⟨fun _ _ _ _=>false⟩) l
theorem aEK (d:Option Tmp) (v:Value) (A:bC) (k:bC->Bool):aN3 d v A k=mJ A d v k:=by cases d<;>rfl
theorem Pj (E:Env) (ops:Array Oper):∀(l:List Nat) (A:bC) (S:St) (k:KS),(aBp E.P ops l).f E A S k=nW E ops l A S k:=by
 intro l;induction l with
 | nil=>intro A S k;rfl
 | cons i l ih=>
  intro A S k;unfold aBp nW at ih ⊢;rw [bU,bU];cases ops[i]? with
  | none=>rfl
  | some o=>
   simp only [aEJ,aEK]
   congr 1
   funext v S
   congr 1
   funext A
   exact ih A S k
def aLm (P:Program) (ops:Array Oper) (l:List (Nat×List Nat)):ChW:=
 gW (β:=ChW) ⟨fun _ _ _ k=>k⟩ (fun p _ ih=>match ops[p.1]? with
  | some o=>⟨fun E A S k=>aCY A o (fX ((aBp P ops p.2).f E A S fun A S=>(aLl P ops p.1 o).f E A S fun _ _=>true) (ih.f E A S k) false)⟩
  | none=>⟨fun _ _ _ _=>false⟩) l
theorem aEL (E:Env) (ops:Array Oper) (A:bC) (S:St) (k:Bool):∀(l:List (Nat×List Nat)),(aLm E.P ops l).f E A S k=UV E ops A S l k:=by
 intro l;induction l with
 | nil=>rfl
 | cons p l ih=>
  unfold aLm UV at ih ⊢;rw [bU,bU];cases ops[p.1]? with
  | none=>rfl
  | some o=>simp only [Pj,aEJ,ih]
def Mt (P:Program) (ops:Array Oper) (l:List yT):Pb:=
 gW (β:=Pb) ⟨fun _ _ _ _=>false⟩ (fun s _ ih=>match s with
  | .take i=>match ops[i]? with
   | some o=>⟨fun E A S k=>(doW P ops o).f E A S fun A S=>ih.f E A S k⟩
   | none=>⟨fun _ _ _ _=>false⟩
  | .Vj BO nB D r FX=>match ops[r]? with
   | some o=>⟨fun E A S k=>(aCX P ops BO).f E A S ((aLm P ops nB).f E A S ((aBp P ops D).f E A S fun A S=>(doW P ops o).f E A S fun A S=>(aCX P ops FX).f E A S (ih.f E A S k)))⟩
   | none=>⟨fun _ _ _ _=>false⟩
  | .fin BO nB D=>⟨fun E A S k=>(aCX P ops BO).f E A S ((aLm P ops nB).f E A S ((aBp P ops D).f E A S k))⟩) l
theorem Pk (E:Env) (ops:Array Oper):∀(l:List yT) (A:bC) (S:St) (k:KS),(Mt E.P ops l).f E A S k=mE E ops l A S k:=by
 intro l;induction l with
 | nil=>intro A S k;rfl
 | cons s l ih=>
  intro A S k;unfold Mt mE at ih ⊢;rw [bU,bU];cases s with
  | take i=>
   simp only;cases ops[i]? with
   | none=>rfl
   | some o=>simp only [aCW,ih]
  | Vj BO nB D r FX=>
   simp only;cases ops[r]? with
   | none=>rfl
   | some o=>simp only [aCW,aEB,aEL,Pj,ih]
  | fin BO nB D=>simp only [aEB,aEL,Pj]
def aLn (P:Program) (ops:Array Oper) (draw:Bool):Pb:=
 match draw with
 | true=>match Er P ops with
  | some l=>match PY l with
   | []=>Mt P ops l
   | ls=>⟨fun E A S k=>WO ops ls A fun A=>(Mt P ops l).f E A S k⟩
  | none=>⟨fun _ _ _ _=>false⟩
 | false=>aN4 P ops ops.toList
theorem aLo (E:Env) (ops:Array Oper) (draw:Bool) (A:bC) (S:St) (k:KS):(aLn E.P ops draw).f E A S k=fX draw (Kd E ops A S k) (ZH E ops ops.toList A S k):=by
 cases draw with
 | true=>
  unfold aLn Kd fX;simp only;cases Er E.P ops with
  | none=>rfl
  | some l=>
   simp only;cases h:PY l with
   | nil=>exact Pk E ops l A S k
   | cons d ls=>simp only [Pk]
 | false=>exact aLi E ops _ A S k
def WQ (P:Program) (c:Code):CdW:=
 aPQ (β:=CdW)
  ⟨fun _ _ A S K=>K .normal A S⟩
  (fun ops draw=>⟨fun E _ A S K=>(aLn P ops draw).f E A S fun A S=>K .normal A S⟩)
  (fun ha hb=>⟨fun E r A S K=>ha.f E r A S fun e A S=>match e with | .normal=>hb.f E r A S K | e=>K e A S⟩)
  (fun c ha hb=>⟨fun E r A S K=>(AQ c).f A fun v=>match v with | .bool b=>fX b (ha.f E r A S K) (hb.f E r A S K) | _=>false⟩)
  (fun id h=>⟨fun E r A S K=>h.f E r A S fun e A S=>match e with
   | .exit i=>match Nat.beq i id with | true=>K .normal A S | false=>K (.exit i) A S
   | e=>K e A S⟩)
  (fun h=>⟨fun E r A S K=>aEu (h.f E r) E.most A S K⟩)
  (fun h=>h)
  (fun f params assign body=>⟨fun E r A S K=>Cc E r f params assign body A S K⟩)
  (fun id=>⟨fun _ _ A S K=>K (.exit id) A S⟩)
  ⟨fun _ _ A S K=>K .normal A S⟩
  ⟨fun _ _ A S K=>K .ret A S⟩
  ⟨fun _ _ _ _ _=>false⟩ c
theorem aBq (E:Env) (r:Option Nat):∀(c:Code) (A:bC) (S:St) (K:Cb),(WQ E.P c).f E r A S K=xL E (Kd E) r c A S K:=by
 intro c;induction c with
 | skip=>intro A S K;rfl
 | region id ops draw=>
  intro A S K;show(aLn E.P ops draw).f E A S (fun A S=>K .normal A S)=fX draw (Kd E ops A S fun A S=>K .normal A S) (ZH E ops ops.toList A S fun A S=>K .normal A S);exact aLo E ops draw A S _
 | seq a b iha ihb=>
  intro A S K;show(WQ E.P a).f E r A S (fun e A S=>match e with | .normal=>(WQ E.P b).f E r A S K | e=>K e A S)=xL E (Kd E) r a A S fun e A S=>match e with | .normal=>xL E (Kd E) r b A S K | e=>K e A S
  rw [iha]
  congr 1
  funext e A S
  cases e with
  | normal=>exact ihb A S K
  | _=>rfl
 | cond c a b iha ihb=>
  intro A S K;show(AQ c).f A (fun v=>match v with | .bool b'=>fX b' ((WQ E.P a).f E r A S K) ((WQ E.P b).f E r A S K) | _=>false)=vM A c fun v=>match v with | .bool b'=>fX b' (xL E (Kd E) r a A S K) (xL E (Kd E) r b A S K) | _=>false
  rw [kU,iha,ihb]
 | block id a ih=>
  intro A S K
  show(WQ E.P a).f E r A S (fun e A S=>match e with
   | .exit i=>match Nat.beq i id with | true=>K .normal A S | false=>K (.exit i) A S
   | e=>K e A S)=_
  rw [ih];rfl
 | loop a ih=>
  intro A S K;show aEu ((WQ E.P a).f E r) E.most A S K=aEu (xL E (Kd E) r a) E.most A S K;have:(WQ E.P a).f E r=xL E (Kd E) r a:=by funext A S K;exact ih A S K
  rw [this]
 | scope a ih=>intro A S K;exact ih A S K
 | _=>intros;rfl
def fnL (P:Program) (f:FuncId):FnW:=
 match P.funcs[f]? with
 | some fn=>match fn.body with
  | some c=>⟨fun E args S K=>bV fn.ntmps fun n=>aEr n args fun ts=>(WQ P c).f E none ⟨ts,[],P.globals.size⟩ S fun e A S=>
   match e with
   | .exit _=>false
   | _=>OX A.marks S fun S=>sZ P fn.results.toList A S fun vs=>match vs with | [v]=>K v S | vs=>K (.tuple ⟨vs⟩) S⟩
  | none=>⟨fun _ _ _ _=>false⟩
 | none=>⟨fun _ _ _ _=>false⟩
theorem aN9 (E:Env) (f:FuncId) (args:List Value) (S:St) (K:VK):(fnL E.P f).f E args S K=Cd E (Kd E) f args S K:=by
 unfold fnL Cd;cases E.P.funcs[f]? with
 | none=>rfl
 | some fn=>
  simp only;cases fn.body with
  | none=>rfl
  | some c=>simp only [aBq]<;>rfl
def Pl (P:Program) (E:Env) (l:Nat) (args:List Value) (S:St) (K:VK):Bool:=
 rE S.h l fun o=>match o with
  | .loop tmps params assign body _ _=>
   let laid:List Tmp->List Value->Tm->(Tm->Bool)->Bool:=fun ps=>gW (β:=List Value->Tm->(Tm->Bool)->Bool)
    (fun as ts k=>match as with | []=>k ts | _=>false) (fun p _ ih as ts k=>match as with | a::as=>uC a ts p fun ts=>ih as ts k | []=>false) ps
   laid params args tmps fun ts=>(WQ P assign).f E (some l) ⟨ts,[],P.globals.size⟩ S fun e A S=>match e with
    | .normal=>rE S.h l fun o=>match o with
     | .loop tm ps as bo .ready pe=>sR S l (.loop tm ps as bo .busy pe) fun S=>(WQ P body).f E (some l) A S fun e _ S=>
      rE S.h l fun o=>match o with
       | .loop tm ps as bo _ _=>match e with
        | .normal=>sR S l (.loop tm ps as bo .ready none) fun S=>K (.bool true) S
        | .ret=>sR S l (.loop tm ps as bo .done (some .ret)) fun S=>K (.bool false) S
        | .exit id=>sR S l (.loop tm ps as bo .done (some (.exit id))) fun S=>K (.bool false) S
       | _=>false
     | _=>false
    | _=>false
  | _=>false
theorem aGn (E:Env) (l:Nat) (args:List Value) (S:St) (K:VK):Pl E.P E l args S K=Hx E (Kd E) l args S K:=by
 unfold Pl Hx;simp only [aBq]<;>rfl
def aHZ (P:Program) (ov:FuncId->Option (List Value->St->VK->Bool)) (most:Nat) (n:Nat):Env:=
 MZ (β:=Env) {P,ov,call:=fun _ _ _ _=>false,round:=fun _ _ _ _=>false,most}
  (fun _ E=>{P,ov,call:=fun f args S K=>match ov f with | some g=>g args S K | none=>(fnL P f).f E args S K,round:=fun l args S K=>Pl P E l args S K,most}) n
theorem aLp (P:Program) (ov:FuncId->Option (List Value->St->VK->Bool)) (most:Nat):∀n,aHZ P ov most n=env P ov Kd most n:=by
 intro n;induction n with
 | zero=>rfl
 | succ n ih=>
  have hP:=aNb P ov Kd most n
  have h1:∀f args S K,(fnL P f).f (env P ov Kd most n) args S K=Cd (env P ov Kd most n) (Kd (env P ov Kd most n)) f args S K:=by
   intro f args S K;rw [<-aN9,hP]
  have h2:∀l args S K,Pl P (env P ov Kd most n) l args S K=Hx (env P ov Kd most n) (Kd (env P ov Kd most n)) l args S K:=by
   intro l args S K;rw [<-aGn,hP]
  show({P,ov,call:=fun f args S K=>match ov f with | some g=>g args S K | none=>(fnL P f).f (aHZ P ov most n) args S K,round:=fun l args S K=>Pl P (aHZ P ov most n) l args S K,most}:Env)=_;rw [ih];simp only [h1,h2];rfl
theorem aC0{P:Program}{ov:FuncId->Option (List Value->St->VK->Bool)}{most n:Nat}{w0:World} (hov:Ee P w0 ov) (LA:∀(f:FuncId) (fn:Func),P.funcs[f]? =some fn->fn.name≠ "runtime.NumGoroutine") (hm:P.follows .mixedOrders=true):
 kT P w0 (aHZ P ov most n).call:=by
 rw [aLp];exact(aF8 (w0:=w0) (ov:=ov) (dr:=Kd) (most:=most) hov LA (fun E hE hc hr=>aH0 (by rw [hE];exact hc) (by rw [hE];exact hr) (by rw [hE];exact hm)) n).1
section
variable{P:Program}{w0:World}{U:Rn}{S:St}{w w':World}
theorem aDy (hw:Below w0.heap.size w0 w) (hb:Below w.heap.size w w'):Below w0.heap.size w0 w':=hw.trans (hb.mono hw.size)
theorem Rel.below (h:Rel P w0 U S w) (hb:Below w.heap.size w w'):Rel P w0 U S w'/\xM U w U w':=
 ⟨⟨h.Oi,fun i o hi=>(h.OY i o hi).frame (.refl U) fun L hL=>hb.block _ (h.loc i L hL),h.dom,h.lt,fun i L hi=>CX (h.loc i L hi) hb.size,h.sep,h.old,aDy h.base hb⟩,
   .refl U,⟨hb.size,fun c hc _=>hb.block c hc⟩,fun _ _ h=> .inl h⟩
end
structure Pm where
 g:Nat
 vs:List Value
 e:TypeId
 m:Nat
def Rn.laid (n:Nat) (l:List Pm):Rn:=fun i=>if i<n then some ⟨i,0,0,match l.find? (fun x=>x.g==i)with | some x=>x.m | none=>0⟩else none
def St.laid (n:Nat) (l:List Pm):St:=⟨l.foldr (fun x h=>h.put x.g (.cells x.vs x.e .ro)) .leaf,n⟩
def GOk (P:Program) (l:List Pm):Prop:=(l.map (·.g)).Nodup/\∀x∈l,x.g<P.globals.size/\cN P x.e=some x.m/\∀v∈x.vs,bW v=true
def Laid (l:List Pm) (w:World):Prop:=∀x∈l,∃cs t fz,w.heap[x.g]? =some (.cells cs t fz)/\∀(j:Nat) (v:Value),x.vs[j]? =some v->cs[j]? =some v
theorem Laid.below{l:List Pm}{w w':World}{n:Nat} (h:Laid l w) (hb:Below n w w') (hn:∀x∈l,x.g<n):Laid l w':=by
 intro x hx;obtain⟨cs,t,fz,h1,h2⟩:=h x hx;exact⟨cs,t,fz,by rw [hb.block _ (hn x hx)];exact h1,h2⟩
theorem St.Pn{n:Nat}:∀{l:List Pm},(l.map (·.g)).Nodup->∀{i:Nat} {o:iW},(St.laid n l).obj i=some o->∃x∈l,x.g=i/\o= .cells x.vs x.e .ro:=by
 intro l;induction l with
 | nil=>intro _ i o h;cases h
 | cons y l ih=>
  intro hnd i o h;have hnd:=List.nodup_cons.1 (by simpa using hnd:(y.g::l.map (·.g)).Nodup);have h:((St.laid n l).h.put y.g (.cells y.vs y.e .ro)).get i=some o:=h;rw [AP]at h;split at h
  ·rename_i e
   injection h with h;exact⟨y,.head _,e.symm,h.symm⟩
  ·obtain⟨x,hx,h1,h2⟩:=ih hnd.2 h
   exact⟨x,.tail _ hx,h1,h2⟩
theorem Rel.laid{P:Program}{l:List Pm}{w:World} (hg:GOk P l) (hsz:P.globals.size<=w.heap.size) (h:Laid l w):Rel P w (Rn.laid P.globals.size l) (St.laid P.globals.size l) w:=by
 have hr:∀i L,Rn.laid P.globals.size l i=some L->i<P.globals.size/\L.b=i/\L.s=0:=by
  intro i L h;unfold Rn.laid at h;split at h
  ·rename_i hi;injection h with h;subst h;exact⟨hi,rfl,rfl⟩
  ·cases h
 have So:∀i,i<P.globals.size->∃L,Rn.laid P.globals.size l i=some L/\L.b=i/\L.s=0:=fun i hi=>⟨_,aJ hi,rfl,rfl⟩;refine⟨So,fun i o ho=>?_,fun i hi=>?_,fun i o ho=>?_,fun i L hi=>?_,fun i j a b L M Tc _ _ _ _ hL hM hb=>?_,fun j vs e olds ho=>?_,⟨rfl,rfl,rfl,bR _,fun _ _=>rfl⟩⟩
 ·obtain⟨x,hx,rfl,rfl⟩:=St.Pn hg.1 ho
  obtain⟨cs,t,fz,h1,h2⟩:=h x hx;obtain⟨hlt,hm,RQ⟩:=hg.2 x hx
  have aHC:l.find? (fun y=>y.g==x.g)=some x:=by
   have:∀(l:List Pm),(l.map (·.g)).Nodup->x∈l->l.find? (fun y=>y.g==x.g)=some x:=by
    intro l;induction l with
    | nil=>intro _ h;cases h
    | cons y l ih=>
     intro hnd hx;have hnd:=List.nodup_cons.1 (by simpa using hnd:(y.g::l.map (·.g)).Nodup);rw [List.find?_cons];rcases List.mem_cons.1 hx with e | hx
     ·subst e;simp
     ·have:y.g≠x.g:=fun e=>hnd.1 (e▸List.mem_map.2 ⟨x,hx,rfl⟩)
      have hb:(y.g==x.g)=false:=by simpa using this
      rw [hb];exact ih hnd.2 hx
   exact this l hg.1 hx
  refine⟨⟨x.g,0,0,x.m⟩,cs,t,fz,by unfold Rn.laid;rw [aJ hlt,aHC],h1,fun j v hj=>⟨v,by simpa using h2 j v hj,.flat (RQ v (CW hj))⟩,hm⟩
 ·have:P.globals.size<=i:=hi
  unfold Rn.laid;rw [aG (by omega)]
 ·obtain⟨x,hx,rfl,_⟩:=St.Pn hg.1 ho
  exact(hg.2 x hx).1
 ·obtain⟨h1,h2,_⟩:=hr i L hi
  omega
 ·obtain⟨_,h2,_⟩:=hr i L hL
  obtain⟨_,h4,_⟩:=hr j M hM;omega
 ·obtain⟨x,_,_,h2⟩:=St.Pn hg.1 ho
  injection h2 with _ _ h2;cases h2
def WS (a b:List Value):Bool:=
 gW (β:=List Value->Bool) (fun b=>match b with | []=>true | _=>false) (fun x _ ih b=>match b with | y::b=>(match Jx x y with | true=>ih b | false=>false) | []=>false) a b
theorem lM.aOa{U:Rn}{l:List Value} (h:∀v∈l,kM v=true):lM U l l:=
 ⟨rfl,fun k v v' a b=>by rw [a]at b;injection b with b;subst b;exact .kM (h v (CW a))⟩
theorem Po{U:Rn}:∀{a b b':List Value},(∀v∈a,kM v=true)->WS a b=true->lM U b b'->b'=a:=by
 intro a;induction a with
 | nil=>
  intro b b' _ h hv;unfold WS at h;rw [vP]at h;split at h
  ·exact hv.kS
  ·cases h
 | cons x a ih=>
  intro b b' hf h hv;unfold WS at h;rw [bU]at h;split at h
  ·rename_i y t
   obtain⟨y',t',rfl,h1,h2⟩:=hv.dH;split at h
   ·rename_i hxy
    rw [ih (fun v hv=>hf v (.tail _ hv)) h h2,<-NM hxy (.kM (hf x (.head _))) h1]
   ·cases h
  ·cases h
def NO (tbl:List (List Value×Value)) (args:List Value) (S:St) (K:VK):Bool:=
 gW (β:=Bool) false (fun x _ ih=>fX (WS x.1 args) (K x.2 S) ih) tbl
def answers (r v:Value):Bool:=Jx r v
def YP (P:Program) (ov:FuncId->Option (List Value->St->VK->Bool)) (most n:Nat) (f:FuncId) (l:List Pm) (x:List Value×Value):Prop:=
 (∀v∈x.1,kM v=true)/\kM x.2=true/\(aHZ P ov most n).call f x.1 (St.laid P.globals.size l) (fun v _=>answers x.2 v)=true
theorem Mu{P:Program}{w0:World}{ov:FuncId->Option (List Value->St->VK->Bool)}{most n:Nat}{f:FuncId}{l:List Pm}{tbl:List (List Value×Value)} (hg:GOk P l) (hsz:P.globals.size<=w0.heap.size) (hl:Laid l w0)
 (hov:∀w,P.globals.size<=w.heap.size->Laid l w->Ee P w ov) (LA:∀(f:FuncId) (fn:Func),P.funcs[f]? =some fn->fn.name≠ "runtime.NumGoroutine") (hm:P.follows .mixedOrders=true)
 (hf:∀args w,(callFunc f args).run P w= .ok (.enter f args) w) (ht:∀x∈tbl,YP P ov most n f l x):
 kT P w0 (fun f' args S K=>match Nat.beq f' f with | true=>NO tbl args S K | false=>false):=by
 intro f' args S K U w eK hk hr ha;dsimp only at hk;split at hk
 ·rename_i hf'
  obtain rfl:f'=f:=by simpa using hf'
  refine⟨hf ⟨eK⟩,?_⟩;have aLq:P.globals.size<=w.heap.size:=zA hsz hr.base.size;have hlw:Laid l w:=hl.below hr.base fun x hx=>CX (hg.2 x hx).1 hsz;revert hk;induction tbl with
  | nil=>intro hk;cases hk
  | cons x tbl ih=>
   intro hk;unfold NO at hk;rw [bU]at hk;cases hs:WS x.1 args with
   | false=>rw [hs]at hk;exact ih (fun y hy=>ht y (.tail _ hy)) hk
   | true=>
    rw [hs]at hk;have hk:K x.2 S=true:=hk;obtain⟨m1,m2,m3⟩:=ht x (.head _);have TQ:=Po m1 hs ha;subst TQ;obtain⟨_,TR⟩:=aC0 (w0:=w) (hov w aLq hlw) LA hm f' x.1 _ _ _ w x.1 m3 (Rel.laid hg aLq hlw) (lM.aOa m1);refine CallsIn.mono TR ?_
    rintro e w' ⟨v',rfl,U',v,S',hkv,hv,hrel,_⟩
    have PU:x.2=v':=NM hkv (.kM m2) hv;subst PU;obtain⟨h1,h2⟩:=hr.below hrel.base;exact⟨_,rfl,U,_,S,hk,.kM m2,h1,h2⟩
 ·cases hk
def FY (f:FuncId) (g:List Value->St->VK->Bool) (ov:FuncId->Option (List Value->St->VK->Bool)) (f':FuncId):Option (List Value->St->VK->Bool):=fX (Nat.beq f' f) (some g) (ov f')
theorem vU{P:Program}{w0:World}{f:FuncId}{g:List Value->St->VK->Bool}{ov:FuncId->Option (List Value->St->VK->Bool)} (h:kT P w0 (fun f' args S K=>match Nat.beq f' f with | true=>g args S K | false=>false)) (hov:Ee P w0 ov):Ee P w0 (FY f g ov):=by
 intro f' g' hg;unfold FY at hg;cases hb:Nat.beq f' f with
 | true=>
  rw [hb]at hg;injection hg with hg;subst hg;obtain rfl:f'=f:=by simpa using hb
  exact h
 | false=>rw [hb]at hg;exact hov f' g' hg
section
variable{E:Env}{w0:World}
end
def rIf (c:Value) (a b:Bool):Bool:=match c with | .bool v=>fX v a b | _=>false
def aNg (c a b:Value) (K:Value->Bool):Bool:=match c with
 | .bool true=>K a
 | .bool false=>K b
 | _=>false
def rLd (a:Value) (S:St) (K:VK):Bool:=match a with
 | .pointer (some ⟨i,o,none⟩)=>DA S i fun vs _ _=>ZG vs o fun v=>K v S
 | _=>false
def aIb (n:Nat) (a:Value) (S:St) (K:VK):Bool:=match a with
 | .pointer (some ⟨i,o,none⟩)=>PM S i o n fun l=>K (.agg ⟨l⟩) S
 | _=>false
def rSt (n:Nat) (a x:Value) (S:St) (k:St->Bool):Bool:=match a with
 | .pointer (some ⟨i,o,none⟩)=>pM x fun cs=>KQ cs fun m=>match Nat.beq m n with
  | true=>uP S i o cs k
  | false=>false
 | _=>false
def Im (zero:List Value) (t:TypeId) (S:St) (K:VK):Bool:=aK5 zero fun zero=>zB S (.cells zero t .exact) fun i S=>K (.pointer (some ⟨i,0,none⟩)) S
def WY (parts:List (Nat×Nat×Value)) (cells:List Value) (k:List Value->Bool):Bool:=
 gW (β:=List Value->Bool) (fun cs=>k cs) (fun p _ ih cs=>pM p.2.2 fun new=>KQ new fun m=>match Nat.beq m p.2.1 with
  | true=>sU p.1 new cs ih
  | false=>false) parts cells
def aDd (zero:List Value) (parts:List (Nat×Nat×Value)) (K:Value->Bool):Bool:=WY parts zero fun cs=>K (.agg ⟨cs⟩)
def Yv (elem:TypeId) (n:Nat) (zero:List Value) (parts:List (Nat×Nat×Value)) (S:St) (K:VK):Bool:=
 aAL zero n fun cs=>WY parts cs fun cs=>zB S (.cells cs elem .exact) fun i S=>K (.slice (some ⟨i,0,none⟩) n n) S
def aIc (off:Nat) (x:Value) (K:Value->Bool):Bool:=match x with
 | .pointer (some ⟨b,o,none⟩)=>bV (o+off) fun o=>K (.pointer (some ⟨b,o,none⟩))
 | _=>false
def Pu (off:Nat) (x:Value) (K:Value->Bool):Bool:=match x with
 | .agg cs=>ZG cs.toList off K
 | _=>false
def Ex (off n:Nat) (x:Value) (K:Value->Bool):Bool:=match x with
 | .agg cs=>NC off cs.toList fun l=>VO n l fun l=>K (.agg ⟨l⟩)
 | _=>false
def aLw (size:Nat) (x ix:Value) (K:Value->Bool):Bool:=match ix with
 | .int _ (.ofNat i)=>match x with
  | .slice (some ⟨b,o,sp⟩) len _=>match sp with
   | some (_+1)=>false
   | _=>match Nat.blt i len with
    | true=>bV (o+i*size) fun o=>K (.pointer (some ⟨b,o,none⟩))
    | false=>false
  | _=>false
 | _=>false
def Yq (x ix:Value) (K:Value->Bool):Bool:=match ix with
 | .int _ (.ofNat i)=>match x with
  | .string s=>ZG s.data.toList i fun b=>bV b.toNat fun n=>K (.int .u8 (.ofNat n))
  | _=>false
 | _=>false
def aIj (i:Nat) (x:Value) (K:Value->Bool):Bool:=match x with
 | .tuple vs=>ZG vs.toList i fun v=>K v
 | _=>false
def aIi (k:IntKind) (x:Value) (K:Value->Bool):Bool:=match x with
 | .int _ n=>OV k n fun v=>K v
 | _=>false
def aEM (x:Value) (K:Value->Bool):Bool:=match x with
 | .slice _ n _=>K (.int .i64 (.ofNat n))
 | _=>false
def aBB (x:Value) (K:Value->Bool):Bool:=match x with
 | .string s=>KQ s.data.toList fun n=>K (.int .i64 (.ofNat n))
 | _=>false
def aDb (P:Program) (elem:TypeId) (size bytes:Nat) (s x:Value) (S:St) (K:VK):Bool:=match s with
 | .slice base sLen sCap=>TL x fun n=>match n with
  | 0=>match Nat.ble sLen sCap with | true=>K (.slice base sLen sCap) S | false=>false
  | n'+1=>OW S size (n'+1) x fun new=>bV (sLen+(n'+1)) fun tY=>
   match Dn tY bytes with
   | true=>match Nat.ble tY sCap with
    | true=>Hw size new base sLen sCap tY S K
    | false=>Dp P elem size new base sLen tY S K
   | false=>false
 | _=>false
def aLy (P:Program) (v:Value) (K:Value->Bool):Bool:=match v with
 | .pointer (some a)=>K (.pointer (some a))
 | .func (.func f) a b=>K (.func (.func f) a b)
 | .func (.yield f) a b=>K (.func (.yield f) a b)
 | .func (.method s) ⟨[.iface t w]⟩ ⟨[]⟩=>match KT P t s with
  | some _=>K (.func (.method s) ⟨[.iface t w]⟩ ⟨[]⟩)
  | none=>false
 | .iface t w=>K (.iface t w)
 | _=>false
def aOh (call:aEs) (round:Nat->List Value->St->VK->Bool) (f:Value) (args:List Value) (S:St) (K:VK):Bool:=match f with
 | .func (.func g) first captured=>FL first.toList args fun l=>FL l captured.toList fun l=>call g l S K
 | .func (.yield l) first captured=>match first.toList,captured.toList with
  | [],[]=>round l args S K
  | _,_=>false
 | _=>false
def aSi (P:Program) (call:aEs) (r:Value) (m:String) (args:List Value) (S:St) (K:VK):Bool:=match r with
 | .iface t v=>match KT P t m with
  | some g=>call g (v::args) S K
  | none=>false
 | _=>false
def Kk (w:Bool) (v:Value) (k:Bool->Bool):Bool:=match v with
 | .bool b=>match b,w with | true,true | false,false=>k true | _,_=>k false
 | _=>k false
def Vs (v u:Value) (k:Bool):Bool:=match TS v u with | true=>k | false=>false
def aEN (P:Program) (as:TypeId) (ok:Bool) (v:Value) (K:Value->Bool):Bool:=match v,P.underlying as with
 | .iface _ _,some (.interface _)=>false
 | .iface t w,some _=>match Nat.beq t as,ok with
  | true,true=>K (.tuple ⟨[w,.bool true]⟩)
  | true,false=>K w
  | false,_=>false
 | _,_=>false
end Go.Am
namespace Go.Am
open Go.RowKit Go.MapKept
def Yr (w:Bool) (v:Value) (op:VK->Bool) (S:St) (k:VK):Bool:=Kk w v fun b=>fX b (op k) (k undef S)
def shut (most:Nat) (b:Bool):Bool:=Nat.rec (motive:=fun _=>Bool->Bool) (fun x=>x) (fun _ _ x=>x) most b
theorem Mx (most:Nat) (b:Bool):shut most b=b:=by cases most<;>rfl
def aQn (u:Value) (k:Bool):Bool:=match u with | .tuple ⟨[]⟩=>k | _=>false
def Ys (w:Bool) (v u:Value) (op:Bool->Bool) (k:Bool):Bool:=Kk w v fun b=>fX b (op k) (aQn u k)
end Go.Am
namespace Go.Am
def aIh (P:Program) (op:BinOp) (t:TypeId) (a b:Value) (K:Value->Bool):Bool:=(aLh P op).f t a b K
theorem SK (P:Program) (op:BinOp) (t:TypeId) (a b:Value) (K:Value->Bool):aIh P op t a b K=By P op t a b K:=aEz P op t a b K
def NP (g:Nat) (b:Bool) (o:Oper):Oper:=match o.guard with
 | some (j,w)=>match Nat.beq j g&&(w==b)with | true=>{o with guard:=none} | false=>o
 | none=>o
def eS (ops:Array Oper) (g:Nat) (b:Bool):Array Oper:=⟨ops.toList.map (NP g b)⟩
theorem CE (g:Nat) (b:Bool) (o:Oper):NP g b o=o\/(NP g b o={o with guard:=none}/\o.guard=some (g,b)):=by
 unfold NP;split
 ·rename_i j w hg
  split
  ·rename_i h
   simp only [dR,beq_iff_eq]at h;have h1:=dE h.1;exact .inr ⟨rfl,by rw [hg,h1,h.2]⟩
  ·exact .inl rfl
 ·exact .inl rfl
theorem Vp (g:Nat) (b:Bool) (o:Oper):(NP g b o).dst=o.dst:=by rcases CE g b o with h | ⟨h,_⟩<;>rw [h]
theorem WU (g:Nat) (b:Bool) (o:Oper):(NP g b o).after=o.after:=by rcases CE g b o with h | ⟨h,_⟩<;>rw [h]
theorem Pr (g:Nat) (b:Bool) (o:Oper):(NP g b o).op=o.op:=by rcases CE g b o with h | ⟨h,_⟩<;>rw [h]
theorem uF (ops:Array Oper) (g:Nat) (b:Bool) (i:Nat):(eS ops g b)[i]? =ops[i]?.map (NP g b):=by
 unfold eS;simp
theorem OZ (ops:Array Oper) (g:Nat) (b:Bool):(eS ops g b).size=ops.size:=by unfold eS;simp
theorem QC (ops:Array Oper) (g:Nat) (b:Bool) (t:Array Value):yielded (eS ops g b) t=yielded ops t:=by
 funext j
 unfold yielded;rw [uF];cases ops[j]? with
 | none=>rfl
 | some o=>simp only [CY,Hq,Vp]
theorem WV{ops:Array Oper}{g:Nat}{b:Bool}{j e:Nat}:TT (eS ops g b) j e↔TT ops j e:=by
 unfold TT;rw [uF];cases ops[j]? with
 | none=>simp
 | some o=>
  constructor
  ·rintro⟨o',h,x,hx⟩
   injection h with h;subst h;rw [WU]at hx;exact⟨o,rfl,x,hx⟩
  ·rintro⟨o',h,x,hx⟩
   injection h with h;subst h;exact⟨_,rfl,x,by rw [WU];exact hx⟩
theorem LH{ops:Array Oper}{g:Nat}{b:Bool}{t:Array Bool}{j:Nat}:j∈Region.ready .any (eS ops g b) t↔j∈Region.ready .any ops t:=by
 rw [kN,kN,OZ];simp only [WV]
theorem Ps{ops:Array Oper}{g:Nat}{b:Bool} (h:Plain ops):Plain (eS ops g b):=by
 intro j o ho;rw [uF]at ho;cases hj:ops[j]? with
 | none=>rw [hj]at ho;cases ho
 | some q=>
  rw [hj]at ho;injection ho with ho;subst ho;rw [Pr];exact h j q hj
section
variable{P:Program}{ops:Array Oper}{ro:Option Nat}{Q:Exit->Act->World->Prop}
theorem aC7{j:Nat}{o:Oper} (hj:ops[j]? =some o){I:Array Value->Prop}{a:Act}{w:World} (hI:∀v,I (a.put o.dst v).tmps){K:Act->World->Prop} (h:wpOpIn (UT ro) 0 P ops Q j K a w):wpOpIn (UT ro) 0 P ops Q j (fun a' w'=>I a'.tmps/\K a' w') a w:=by
 have hd:∀d:Deferred,I (({a with defers:=d::a.defers}:Act).put o.dst undef).tmps:=fun d=>by
  have:=hI undef;unfold Act.put at this ⊢;cases hod:o.dst with
  | none=>rw [hod]at this;exact this
  | some d=>rw [hod]at this;exact this
 unfold wpOpIn at*;simp only [hj]at*;split
 ·rename_i hw
  simp only [hw,if_true]at h;unfold Oper.wpIn at*;refine⟨h.1,?_⟩;have h:=h.2;generalize (o.semAt (UT ro).round a.eval).run P w=r at*;cases r with
  | ok x w'=>
   cases x<;>simp only [Oper.uponIn]at h ⊢
   case value=>exact⟨hI _,h⟩
   case skip=>exact⟨hI undef,h⟩
   case defer=>exact⟨hd _,h⟩
   case enter f args=>
    refine⟨h.1,CallsIn.mono h.2 fun e w'' he=>?_⟩;cases e with
    | returned u=>exact⟨hI u,he⟩
    | panicked c=>exact he
    | outgrown=>exact he
   case row row args=>exact⟨h.1,RowsIn.mono h.2 fun u w'' he=>⟨hI u,he⟩⟩
   case round l f tmps assign body=>
    refine⟨h.1,RoundIn.mono h.2 fun e w'' he=>?_⟩;cases e with
    | returned u=>exact⟨hI u,he⟩
    | panicked c=>exact he
    | outgrown=>exact he
  | halt x w'=>
   cases x<;>simp only [Oper.uponIn]at h ⊢
   case panic u=>exact h
 ·rename_i hw
  simp only [hw]at h;exact⟨h.1,hI undef,h.2⟩
theorem aH8{g:Nat}{b:Bool}{o:Oper}{K:Act->World->Prop}{a:Act}{w:World} (h:(NP g b o).wpIn (UT ro) 0 P a w K Q):o.wpIn (UT ro) 0 P a w K Q:=by
 rcases CE g b o with e | ⟨e,_⟩
 ·rw [e]at h;exact h
 ·rw [e]at h;exact h
theorem aC8{g:Nat}{b:Bool}{j:Nat}{K:Act->World->Prop}{a:Act}{w:World} (hg:yielded ops a.tmps g=some b) (h:wpOpIn (UT ro) 0 P (eS ops g b) Q j K a w):wpOpIn (UT ro) 0 P ops Q j K a w:=by
 unfold wpOpIn at*;rw [uF,QC]at h;cases hj:ops[j]? with
 | none=>rw [hj]at h;exact h
 | some o=>
  rw [hj]at h;simp only [CY]at h ⊢;rcases CE g b o with e | ⟨e,hgd⟩
  ·rw [e]at h;exact h
  ·have h1:Region.wanted (NP g b o) (yielded ops a.tmps)=true:=by rw [e];rfl
   have h2:Region.wanted o (yielded ops a.tmps)=true:=by
    unfold Region.wanted;rw [hgd];simp [hg]
   rw [aJ h1]at h;rw [aJ h2];exact aH8 h
def Vq (ops:Array Oper) (g:Nat) (t:Tmp) (L:Array Bool):Prop:=(∃o,ops[g]? =some o/\o.dst=some t)/\∀j o,ops[j]? =some o->¬On L j->j<L.size->o.dst≠some t
theorem Vq.mono{g:Nat}{t:Tmp}{L:Array Bool}{i:Nat} (h:Vq ops g t L) (hi:i<L.size):Vq ops g t (L.setIfInBounds i true):=⟨h.1,fun j o ho hn hl=>h.2 j o ho (fun c=>hn ((On.set hi).2 (.inl c))) (by simpa using hl)⟩
theorem Yl.res{g i:Nat}{b:Bool}{v:Value}{a:Act}{w:World} (hg:yielded ops a.tmps g=some b):Yl P (eS ops g b) i v a w↔Yl P ops i v a w:=by
 unfold Yl;rw [uF,QC];cases ops[i]? with
 | none=>simp
 | some o=>
  rcases CE g b o with e | ⟨e,hgd⟩
  ·simp only [CY,e]
  ·have h1:Region.wanted (NP g b o) (yielded ops a.tmps)=true:=by rw [e];rfl
   have h2:Region.wanted o (yielded ops a.tmps)=true:=by
    unfold Region.wanted;rw [hgd];simp [hg]
   have h3:execOp a.eval (NP g b o)=execOp a.eval o:=by rw [e];rfl
   constructor
   ·rintro⟨q,hq,h⟩
    simp only [CY]at hq;injection hq with hq;subst hq;rw [h1,h3]at h;exact⟨o,rfl,by rw [h2];exact h⟩
   ·rintro⟨q,hq,h⟩
    injection hq with hq;subst hq;rw [h2]at h;exact⟨_,rfl,by rw [h1,h3];exact h⟩
theorem aLv{g j i:Nat}{b:Bool}:dep (eS ops g b) j i=dep ops j i:=by
 unfold dep;rw [uF];cases ops[j]? with
 | none=>rfl
 | some o=>simp only [CY,WU]
theorem DL.res{g:Nat}{b:Bool}{t:Tmp}:∀{f:Nat} {J:List (Nat×Value)} {L:Array Bool} {a:Act} {w:World},Vq ops g t L->yielded ops a.tmps g=some b->DL ro P (eS ops g b) Q f J L a w->DL ro P ops Q f J L a w:=by
 have hr:∀{L:Array Bool},Region.ready .any (eS ops g b) L=[]↔Region.ready .any ops L=[]:=fun {L}=>by
  rw [List.eq_nil_iff_forall_not_mem,List.eq_nil_iff_forall_not_mem];exact⟨fun h j hj=>h j (LH.2 hj),fun h j hj=>h j (LH.1 hj)⟩
 intro f;induction f with
 | zero=>intro J L a w hs hg h;exact⟨fun p hp=>(Yl.res hg).1 (h.1 p hp),hr.1 h.2.1,h.2.2⟩
 | succ f ih=>
  intro J L a w hs hg h;refine⟨fun p hp=>(Yl.res hg).1 (h.1 p hp),fun e=>h.2.1 (hr.2 e),fun j hj=>?_⟩;have h1:=aC8 hg (h.2.2 j (LH.2 hj));obtain⟨⟨hlt,xC⟩,hjs,_⟩:=kN.1 hj;have ho:ops[j]? =some ops[j]:=Hl hjs;have oJ:=hs.2 j _ ho xC hlt
  have h2:=aC7 (I:=fun t=>yielded ops t g=some b) ho (fun v=>by
   obtain⟨o,hog,hot⟩:=hs.1;unfold yielded at hg ⊢;rw [hog]at hg ⊢;simp only [Hq,hot]at hg ⊢
   have:(a.put ops[j].dst v).tmps[t]? =a.tmps[t]? :=by
    unfold Act.put;cases hd:ops[j].dst with
    | none=>rfl
    | some d=>
     have hdt:d≠t:=fun c=>oJ (by rw [hd,c]);simp [aCH hdt]
   rw [this];exact hg) h1
  refine wpOpIn_mono (fun a' w' hk=>?_) h2;simp only [aLv]at hk;exact ih (hs.mono hlt) hk.1 hk.2
theorem Kn.res{g:Nat}{b:Bool}{a:Act}{w:World}{p:Nat×Value} (hg:yielded ops a.tmps g=some b) (h:Kn P ops a w p):Kn P (eS ops g b) a w p:=by
 have pu:∀o,qR P (NP g b o)=qR P o:=fun o=>by unfold qR;rw [Pr]
 have lo:∀o,DM (NP g b o)=DM o:=fun o=>by unfold DM;rw [Pr]
 rcases h with ⟨o,h1,h2,h3⟩ | ⟨o,d,h1,h2,h3,h4,h5⟩
 ·exact .inl ⟨_,by rw [uF,h1];rfl,by rw [pu];exact h2,fun w=>(Yl.res hg).2 (h3 w)⟩
 ·exact .inr ⟨_,d,by rw [uF,h1];rfl,by rw [lo];exact h2,(Yl.res hg).2 h3,by rw [Vp];exact h4,h5⟩
end
section
variable{E:Env}{w0:World}{ops:Array Oper}
theorem Inv.cut{U0:Rn}{wa:World}{L:Array Bool}{taken:List Nat}{m:Nat}{L':Array Bool}{X:List (Nat×Option Nat)}{J:List (Nat×Value)}{U:Rn}{A:bC}{a:Act}{S:St}{w:World}{c:Array Bool×List Nat}{g:Nat}{b:Bool}
 (h:Inv E w0 ops U0 wa L taken m L' X J U A a S w) (hc:LF E.P ops ops.size L []=c) (hc2:c.2=[]) (xC:∀i∈Region.ready .any ops c.1,kZ E.P ops i=false) (hgb:∀j,On L j->IL E.P (eS ops g b) j=false) (hg:yielded ops a.tmps g=some b):
 Inv E w0 (eS ops g b) U0 wa L taken m L' [] J U A a S w:=by
 obtain⟨mm,h1,h2,h3,h4,h5,h6⟩:=CD _ _ _ hc
 have e2:mm=[]:=by have:c.2=mm:=by rw [h1];rfl
                   rw [<-this];exact hc2
 subst e2
 have hX:X=[]:=by
  cases X with
  | nil=>rfl
  | cons p X=>
   have So:On c.1 p.1:=aBn h.szL hc xC _ [] h.xr (by simp) (fun i hi=>by
    rw [List.mem_reverse,List.mem_map]at hi;obtain⟨p,hp,rfl⟩:=hi;exact⟨(h.xl p hp).2.1,Ep (h.xl p hp).2.1⟩) p.1 (by rw [List.mem_reverse,List.mem_map];exact⟨p,.head _,rfl⟩)
   rcases(h3 p.1).1 So with q | q
   ·exact aX q (h.xl p (.head _)).2.2
   ·cases q
 subst hX;exact⟨h.hs,h.RF,by rw [OZ];exact h.szL,by rw [OZ];exact h.sz,h.on,fun j hj e he=>h.down j hj e (WV.1 he),by simp,by simp,by simp,by simp,by simp,hgb,fun p hp=>⟨(h.jf p hp).1,Kn.res hg (h.jf p hp).2⟩,h.fuel,trivial,by simp⟩
end
abbrev aOf:=Nat×Bool×Array Bool×List Nat
def Af (P:Program) (ops:Array Oper):Nat->List Nat->Array Bool->List Nat->Option (List yT×Option aOf)
 | 0,_,_,_=>none
 | f+1,i::is,listed,taken=>match ops[i]? with
  | some o=>match neutral P o&&NN ops listed i with
   | true=>match aBw ops listed i&&FV ops o&&taken.all (leaves ops o)&&(qR P o || jC ops i)with
    | true=>Ii (listed.setIfInBounds i true) fun t=>(Af P ops f is t (i::taken)).map fun p=>(.take i::p.1,p.2)
    | false=>Af P ops f is listed taken
   | false=>Af P ops f is listed taken
  | none=>none
 | f+1,[],listed,taken=>
  Ij P ops (List.range ops.size) listed [] fun c1 c2=>
  let nB:=c2.map fun d=>(d,uS P ops c2 d)
  let BO:=match c2 with | []=>[] | _=>taken.filter (jC ops)
  match c2.all fun d=>DO ops d&&(match ops[d]? with | some o=>FV ops o&&(taken.filter fun p=> !dep ops d p).all (leaves ops o) | none=>false)with
  | true=>match Region.ready .any ops c1 with
   | []=>some ([.fin BO nB (c2.filter fun i=> !IL P ops i)],none)
   | [r]=>match ops[r]? with
    | some o=>
     let D:=uS P ops c2 r
     let qT:=taken.filter fun p=> !dep ops r p&&D.all fun d=> !dep ops d p
     match qT.all (leaves ops o)&& !kZ P ops r with
     | true=>Ii ((D.foldl (fun t i=>t.setIfInBounds i true) listed).setIfInBounds r true) fun t=>(Af P ops f (List.range ops.size) t qT).map fun p=>(.Vj BO nB D r (qT.filter (jC ops))::p.1,p.2)
     | false=>none
    | none=>none
   | r::_=>match(ops[r]?).bind (·.guard)with
    | some (g,b)=>some ([],some (g,b,listed,taken))
    | none=>none
  | false=>none
def aH9 (P:Program) (ops:Array Oper) (g:Nat) (t:Tmp) (b:Bool) (L:Array Bool):Bool:=
 (match ops[g]? with | some o=>o.dst==some t | none=>false)&&((List.range ops.size).all (fun j=>L.getD j false || (match ops[j]? with | some o=>o.dst != some t | none=>true))&&((match LF P ops ops.size L []with | (c1,[])=>(Region.ready .any ops c1).all fun i=> !kZ P ops i | _=>false)&&(List.range ops.size).all fun j=> !L.getD j false || !IL P (eS ops g b) j))
inductive WW where
 | fin (l:List yT)
 | cut (l:List yT) (g:Nat) (t:Tmp) (b:Bool) (r:WW)
def Et (P:Program):Nat->Array Oper->Array Bool->List Nat->Option WW
 | 0,_,_,_=>none
 | f+1,ops,L,taken=>match Af P ops ((ops.size+1)*(ops.size+2)) (List.range ops.size) L taken with
  | some (l,none)=>some (.fin l)
  | some (l,some (g,b,L1,t1))=>match(ops[g]?).bind (·.dst)with
   | some t=>match aH9 P ops g t b L1 with
    | true=>(Et P f (eS ops g b) L1 t1).map (.cut l g t b)
    | false=>none
   | none=>none
  | none=>none
def Yn:WW->List Nat
 | .fin l=>PY l
 | .cut l _ _ _ r=>PY l++Yn r
def yG (E:Env) (ops:Array Oper) (l:List yT) (A:bC) (S:St) (k:bC->St->Bool):Bool:=
 gW (β:=bC->St->Bool) (fun A S=>k A S) (fun s _ ih A S=>match s with
  | .take i=>match ops[i]? with
   | some o=>Ca E ops o A S ih
   | none=>false
  | .Vj BO nB D r FX=>match ops[r]? with
   | some o=>zC E ops A S BO (UV E ops A S nB (nW E ops D A S fun A S=>Ca E ops o A S fun A S=>zC E ops A S FX (ih A S)))
   | none=>false
  | .fin _ _ _=>false) l A S
def Eu (A:bC) (t:Tmp) (b:Bool) (k:Bool):Bool:=YJ A.tmps t fun v=>match v with
 | .bool b'=>match b,b' with | true,true=>k | false,false=>k | _,_=>false
 | _=>false
def WX (E:Env):WW->Array Oper->bC->St->(bC->St->Bool)->Bool
 | .fin l,ops,A,S,k=>mE E ops l A S k
 | .cut l g t b r,ops,A,S,k=>yG E ops l A S fun A S=>Eu A t b (WX E r (eS ops g b) A S k)
def Kh (E:Env) (ops:Array Oper) (cut:Option aOf) (steps:List yT) (A:bC) (S:St) (k kc:bC->St->Bool):Bool:=match cut with | none=>mE E ops steps A S k | some _=>yG E ops steps A S kc
section sound
variable{E:Env}{w0:World}
theorem Ki (hc:kT E.P w0 E.call) (hr:nV E.P w0 E.round){ops:Array Oper} (xA:Plain ops){ro:Option Nat}{Q:Exit->Act->World->Prop} (hQp:∀c a w,¬Q (.panic c) a w){k:bC->St->Bool}{U0:Rn}{wa:World} (Hj:w0.heap.size<=wa.heap.size)
 (hQ:∀a' w',Next E.P w0 U0 wa k a' w'->Q .normal a' w') {cut:Option aOf} {kc:bC->St->Bool}
 (aSg:∀g b L1 t1,cut=some (g,b,L1,t1)->∀{m:Nat} {L':Array Bool} {X:List (Nat×Option Nat)} {J:List (Nat×Value)} {U:Rn} {A:bC} {a:Act} {S:St} {w:World},kc A S=true->Inv E w0 ops U0 wa L1 t1 m L' X J U A a S w->DL ro E.P ops Q m J L' a w):
 ∀(f:Nat) (is:List Nat) (L:Array Bool) (taken:List Nat) (steps:List yT),Af E.P ops f is L taken=some (steps,cut)->
 ∀{m:Nat} {L':Array Bool} {X:List (Nat×Option Nat)} {J:List (Nat×Value)} {U:Rn} {A:bC} {a:Act} {S:St} {w:World},Kh E ops cut steps A S k kc=true->Inv E w0 ops U0 wa L taken m L' X J U A a S w->DL ro E.P ops Q m J L' a w:=by
 intro f;induction f with
 | zero=>intro is L taken steps hp;cases hp
 | succ f ih=>
  intro is L taken steps hp m L' X J U A a S w hk h;cases is with
  | cons i is=>
   unfold Af at hp;simp only [QA]at hp;split at hp
   ·rename_i o ho
    split at hp
    ·rename_i Ck
     rw [dR]at Ck;obtain⟨Ck,hrd⟩:=Ck;have LG:=WP.1 hrd;split at hp
     ·rename_i Yf
      simp only [dR]at Yf;obtain⟨⟨⟨IV,NJ⟩,qS⟩,DQ⟩:=Yf;cases xO:Af E.P ops f is (L.setIfInBounds i true) (i::taken)with
      | none=>rw [xO]at hp;cases hp
      | some rest=>
       obtain⟨rest,aIa⟩:=rest;rw [xO]at hp;simp only [CY]at hp;injection hp with hp;injection hp with hp1 Kj;subst hp1 Kj
       have wO:Ca E ops o A S (fun A S=>Kh E ops aIa rest A S k kc)=true:=by
        cases aIa with
        | none=>
         unfold Kh at hk ⊢;simp only at hk ⊢;unfold mE at hk;rw [bU]at hk;simp only [ho]at hk;exact hk
        | some q=>
         unfold Kh at hk ⊢;simp only at hk ⊢;unfold yG at hk;rw [bU]at hk;simp only [ho]at hk;exact hk
       exact Inv.aBm hQp xA Hj ho LG Ck (Pq IV) NJ qS DQ wO (fun wO h'=>ih _ _ _ _ xO wO h') h
     ·exact ih _ _ _ _ hp hk h
    ·exact ih _ _ _ _ hp hk h
   ·cases hp
  | nil=>
   unfold Af at hp;rw [Vn]at hp;simp only [QA]at hp;generalize Hi:LF E.P ops ops.size L []=c at hp;have aSh:LE E.P ops (List.range ops.size) L []=c:=Hi;simp only [aSh]at hp;split at hp
   ·rename_i PL
    split at hp
    ·rename_i tA
     injection hp with hp;injection hp with hp1 Kj;subst hp1 Kj;unfold Kh at hk;simp only at hk;unfold mE at hk;rw [bU]at hk;simp only at hk;obtain⟨PZ,hk⟩:=Yh h.hs Hi PL hk;exact Inv.aEI xA Hj PZ tA hk hQ m h
    ·rename_i r tA
     split at hp
     ·rename_i o ho
      split at hp
      ·rename_i qS
       simp only [dR,KN]at qS;obtain⟨qS,Xh⟩:=qS;generalize xO:Af E.P ops f _ _ _=rest at hp;cases rest with
       | none=>cases hp
       | some rest=>
        obtain⟨rest,aIa⟩:=rest;simp only [CY]at hp;injection hp with hp;injection hp with hp1 Kj;subst hp1 Kj
        have wO:zC E ops A S (match c.2 with | []=>[] | _=>taken.filter (jC ops)) (UV E ops A S (c.2.map fun d=>(d,uS E.P ops c.2 d)) (nW E ops (uS E.P ops c.2 r) A S fun A S=>Ca E ops o A S fun A S=>zC E ops A S ((taken.filter fun p=> !dep ops r p&&(uS E.P ops c.2 r).all fun d=> !dep ops d p).filter (jC ops)) ((fun A S=>Kh E ops aIa rest A S k kc) A S)))=true:=by
         cases aIa with
         | none=>
          unfold Kh at hk ⊢;simp only at hk ⊢;unfold mE at hk;rw [bU]at hk;simp only [ho]at hk;exact hk
         | some q=>
          unfold Kh at hk ⊢;simp only at hk ⊢;unfold yG at hk;rw [bU]at hk;simp only [ho]at hk;exact hk
        obtain⟨PZ,hk⟩:=Yh h.hs Hi PL wO;exact Inv.aEH hc hr xA Hj PZ ho tA Xh rfl rfl qS hk (fun wO h'=>ih _ _ _ _ xO wO h') m h
      ·cases hp
     ·cases hp
    ·split at hp
     ·injection hp with hp
      injection hp with hp1 Kj;subst hp1 Kj;exact aSg _ _ _ _ rfl hk h
     ·cases hp
   ·cases hp
theorem aC9{P:Program}{ops:Array Oper}{g:Nat}{t:Tmp}{b:Bool}{L:Array Bool} (h:aH9 P ops g t b L=true) (hsz:L.size=ops.size):
 Vq ops g t L/\(∃c,LF P ops ops.size L []=c/\c.2=[]/\∀i∈Region.ready .any ops c.1,kZ P ops i=false)/\∀j,On L j->IL P (eS ops g b) j=false:=by
 unfold aH9 at h;simp only [dR]at h;obtain⟨h1,h2,h3,h4⟩:=h;refine⟨⟨?_,fun j o ho hn hl c=>?_⟩,?_,fun j hj=>?_⟩
 ·split at h1
  ·rename_i o ho;exact⟨o,ho,by simpa using h1⟩
  ·cases h1
 ·have:=List.all_eq_true.1 h2 j (List.mem_range.2 (by omega))
  rw [ho]at this;simp only [VL,bne_iff_ne,ne_eq]at this;rcases this with q | q
  ·exact hn q
  ·exact q c
 ·split at h3
  ·rename_i c1 Hi
   exact⟨_,Hi,rfl,fun i hi=>by have:=List.all_eq_true.1 h3 i hi;simpa using this⟩
  ·cases h3
 ·have:=List.all_eq_true.1 h4 j (List.mem_range.2 (by have:=hj.lt;omega))
  simp only [VL,KN]at this;rcases this with q | q
  ·have Xp:L.getD j false=true:=hj
   rw [q]at Xp;cases Xp
  ·exact q
theorem aDa{A:bC}{t:Tmp}{b k:Bool} (h:Eu A t b k=true):A.tmps.t.get t=some (.bool b)/\k=true:=by
 unfold Eu at h;obtain⟨x,hx,h⟩:=HJ h;split at h
 ·rename_i b'
  cases b<;>cases b'<;>first | exact⟨hx,h⟩ | cases h
 ·cases h
theorem aBy (hc:kT E.P w0 E.call) (hr:nV E.P w0 E.round){ro:Option Nat}{Q:Exit->Act->World->Prop} (hQp:∀c a w,¬Q (.panic c) a w){k:bC->St->Bool}{U0:Rn}{wa:World} (Hj:w0.heap.size<=wa.heap.size)
 (hQ:∀a' w',Next E.P w0 U0 wa k a' w'->Q .normal a' w'):∀(f:Nat) (ops:Array Oper) (L:Array Bool) (taken:List Nat) (p:WW),Plain ops->Et E.P f ops L taken=some p->
 ∀{m:Nat} {L':Array Bool} {X:List (Nat×Option Nat)} {J:List (Nat×Value)} {U:Rn} {A:bC} {a:Act} {S:St} {w:World},WX E p ops A S k=true->Inv E w0 ops U0 wa L taken m L' X J U A a S w->DL ro E.P ops Q m J L' a w:=by
 intro f;induction f with
 | zero=>intro ops L taken p _ hp;cases hp
 | succ f ih=>
  intro ops L taken p xA hp m L' X J U A a S w hk h;unfold Et at hp;split at hp
  ·rename_i l hl
   injection hp with hp;subst hp;exact Ki hc hr xA hQp Hj hQ (kc:=fun _ _=>false) (fun g b L1 t1 e=>by cases e) _ _ _ _ _ hl hk h
  ·rename_i l g b L1 t1 hl
   split at hp
   ·rename_i t ht
    split at hp
    ·rename_i PL
     cases xO:Et E.P f (eS ops g b) L1 t1 with
     | none=>rw [xO]at hp;cases hp
     | some r=>
      rw [xO]at hp;injection hp with hp;subst hp;refine Ki hc hr xA hQp Hj hQ (kc:=fun A S=>Eu A t b (WX E r (eS ops g b) A S k)) (fun g' b' L1' t1' e=>?_) _ _ _ _ _ hl hk h;injection e with e;injection e with e1 e;injection e with e2 e;injection e with e3 e4;subst e1 e2 e3 e4;intro m L' X J U A a S w hk h;obtain⟨Dz,hk⟩:=aDa hk;obtain⟨hst,⟨c,Hi,hc2,xC⟩,hgb⟩:=aC9 PL h.szL;obtain⟨x',Mo,hv⟩:=h.hs.act.tmps.get Dz;have hx:x'= .bool b:=by cases hv;rfl
      have hy:yielded ops a.tmps g=some b:=by
       obtain⟨o,hog,hot⟩:=hst.1;unfold yielded;rw [hog];simp only [Hq,hot];have:a.tmps[t]? =some x':=by rw [<-Mo];simp
       rw [this,hx]
      have h2:=ih (eS ops g b) L1 t1 r (Ps xA) xO hk (h.cut Hi hc2 xC hgb hy);have aHQ:Vq ops g t L':=⟨hst.1,fun j o ho hn hl=>hst.2 j o ho (fun q=>hn ((h.on j).2 (.inl q))) (by rw [h.szL];rw [h.sz]at hl;exact hl)⟩;exact DL.res aHQ hy h2
    ·cases hp
   ·cases hp
  ·cases hp
def drG (E:Env) (ops:Array Oper) (A:bC) (S:St) (k:bC->St->Bool):Bool:=
 match Er E.P ops with
 | some l=>WO ops (PY l) A fun A=>mE E ops l A S k
 | none=>match LC ops with
  | true=>match Et E.P (ops.size+1) ops ⟨List.replicate ops.size false⟩ []with
   | some p=>WO ops (Yn p) A fun A=>WX E p ops A S k
   | none=>false
  | false=>false
theorem aOg (hc:kT E.P w0 E.call) (hr:nV E.P w0 E.round) (hm:E.P.follows .mixedOrders=true):aF7 E w0 (drG E):=by
 intro ops A S k U a w ro id Q hk hs hQ;unfold drG at hk;split at hk
 ·rename_i l hl
  exact aH0 hc hr hm ops A S k U a w ro id Q (by unfold Kd;rw [hl];exact hk) hs hQ
 ·split at hk
  ·rename_i aC6
   split at hk
   ·rename_i p hp
    have xA:=Ad aC6;obtain⟨A',hk,hA',hmk⟩:=Pi hs.act hk
    let Q0:Exit->Act->World->Prop:=fun e a' w'=>e= .normal/\Next E.P w0 U w k a' w'
    have xC:∀j,¬On (⟨List.replicate ops.size false⟩:Array Bool) j:=fun j h=>by
     unfold On at h;rcases BF j ops.size with h' | h'
     ·simp [h']at h
     ·simp [h']at h
    have aOe:rem (⟨List.replicate ops.size false⟩:Array Bool)<=ops.size:=by
     unfold rem;refine zA (List.countP_le_length) ?_;simp
    have h:=aBy hc hr (ro:=ro) (Q:=Q0) (fun c a w h=>by cases h.1) (U0:=U) (wa:=w) hs.rel.base.size (fun a' w' h=>⟨rfl,h⟩) _ _ _ _ p xA hp (m:=ops.size) (X:=[]) (J:=[]) hk
     ⟨⟨hA',hs.rel.drew,by rw [hmk];exact hs.marks⟩,xM.drew U w,by simp,by simp,fun j=>by simp,fun j h=>aX h (xC j),by simp,by simp,by simp,by simp,by simp,fun j h=>aX h (xC j),by simp,aOe,trivial,by simp⟩
    exact wpIn_mono (wpIn_region_any hm h.any) fun e a' w' hq=>by obtain⟨rfl,hn⟩:=hq;exact hQ a' w' hn
   ·cases hk
  ·cases hk
end sound
end Go.Am
