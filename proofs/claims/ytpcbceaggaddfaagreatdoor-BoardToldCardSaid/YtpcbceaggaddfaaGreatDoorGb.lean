/- AM: one operation. -/
import Derived.Test.YtpcbceaggaddfaaGreatDoorGa
import Derived.TacticsIn
import Derived.RangeFuncLeaves
import Derived.Scope
import Derived.OrdersIn

noncomputable section
set_option maxRecDepth 100000
set_option linter.unusedVariables false
namespace Go.Am
open Go.RowKit Go.MapKept
theorem PG{P:Program}{t:TypeId}{i:TypeInfo} (h:P.info? t=some i) (w:World):(typeInfo t).run P w= .ok i w:=by
 simp [typeInfo,h]
theorem Hl{P:Program}{t:TypeId}{name:String}{g:FuncId} (h:DG P t name=some g) (x:Value) (w:World):(nilAhead (P.types.size+Made.depth) t x name).run P w= .ok (some false) w:=by
 unfold DG at h;split at h
 ·rename_i info d hi hd
  split at h
  ·rename_i m hm
   split at h
   ·rename_i g' pr hp hf
    have hp:m.path= #[]:=gW.1 (by simpa using hp);have aDV:P.types.size+Made.depth=(P.types.size+99)+1:=rfl;rw [aDV];unfold nilAhead;simp only [bY,PG hi,dK,hm,hp];unfold followBlind;simp only [iY,dK,hf];cases pr with
    | true=>rfl
    | false=>
     simp only [bY,run_underlying hd,dK];revert h hd;cases d<;>intro hd h<;>first | rfl | cases h
   ·cases h
  ·cases h
 ·cases h
theorem FI{P:Program}{t:TypeId}{name:String}{g:FuncId} (h:DG P t name=some g) (x:Value) (w:World):
 (do
  if(<-nilAhead ((<-program).types.size+Made.depth) t x name) != some false then
   unsupported (.noEntry "op/nilCheck.the method's receiver behind this interface value is a nil pointer, or cannot be seen to be none, and the arguments act or may panic (ledger 612)")
  pure (.value (.func (.method name) ⟨[.iface t x]⟩ ⟨[]⟩)):Sem Go.Next).run P w= .ok (.value (.func (.method name) ⟨[.iface t x]⟩ ⟨[]⟩)) w:=by
 simp only [bY,run_program,dK,Hl h];rfl
section
variable{E:Env}{w0:World}{U:Rn}{S:St}{w:World}
theorem kK.map_toArray{f:Operand->Value}{vs:List Value}{xs:Array Operand} (h:kK U vs (xs.toList.map f)):kK U (⟨vs⟩:Array Value).toList (xs.map f).toList:=by simpa using h
def Quiet (o:Oper):Prop:=∀c,o.op= .call c->∃b,c.callee= .builtin b
theorem aB6 (h:Rel E.P w0 U S w){A:aM}{a:Act} (hA:vN E.P U A a){o:Oper} (hq:Quiet o){K:VK} (hk:uQ E o A S K=true):Out E.P w0 U w K (execOp a.eval o):=by
 unfold uQ at hk;unfold execOp;split at hk<;>rename_i KG<;>simp only [KG]
 ·obtain⟨v,hk,hv⟩:=aK h hA hk
  exact⟨_,U,v,S,_,w,hk,rfl,.inl rfl,hv,h,.refl U w⟩
 ·obtain⟨v,hk,hv⟩:=aK h hA hk
  exact⟨_,U,v,S,_,w,hk,rfl,.inl rfl,hv,h,.refl U w⟩
 ·obtain⟨c,hk,hc⟩:=aK h hA hk
  obtain⟨x,hk,hx⟩:=aK h hA hk;obtain⟨y,hk,hy⟩:=aK h hA hk;split at hk
  ·have:=hc.of_flat rfl
   exact⟨_,U,_,S,_,w,hk,by simp [this,asBool],.inl rfl,hx,h,.refl U w⟩
  ·have:=hc.of_flat rfl
   exact⟨_,U,_,S,_,w,hk,by simp [this,asBool],.inl rfl,hy,h,.refl U w⟩
  ·cases hk
 ·exact Out.new (Lk h hk)
 ·obtain⟨v,hk,hv⟩:=aK h hA hk
  exact Out.new (Xj h hk hv)
 ·obtain⟨v,v',hk,hv,hr⟩:=SG h hA hk
  exact Out.here h hk hv (hr w)
 ·exact Out.new (SH h hA hk)
 ·obtain⟨x,hk,hx⟩:=aK h hA hk
  obtain⟨v,v',hk,hv,hr⟩:=LR h hk hx;exact Out.here h hk hv hr
 ·obtain⟨x,hk,hx⟩:=aK h hA hk
  obtain⟨y,hk,hy⟩:=aK h hA hk;exact Out.unit (Ls h hk hx hy)
 ·obtain⟨x,hk,hx⟩:=aK h hA hk
  split at hk
  ·rename_i ad
   obtain⟨i,off,sp⟩:=ad;have hx2:=hx;obtain⟨_,L,hL,e⟩:=hx.CB;rw [e]at hx2 ⊢;exact⟨_,U,_,S,_,w,hk,rfl,.inl rfl,hx2,h,.refl U w⟩
  ·rename_i f x1 x2
   generalize hg:a.eval _=v' at hx ⊢;cases hx with
   | flat hf=>simp [bA]at hf
   | func h1 h2 h3 h4=>exact⟨_,U,_,S,_,w,hk,rfl,.inl rfl,.func h1 h2 h3 h4,h,.refl U w⟩
  ·rename_i f x1 x2
   generalize hg:a.eval _=v' at hx ⊢;cases hx with
   | flat hf=>simp [bA]at hf
   | yield h1=>exact⟨_,U,_,S,_,w,hk,rfl,.inl rfl,.yield h1,h,.refl U w⟩
  ·rename_i s t x1
   generalize hg:a.eval _=v' at hx ⊢;cases hx with
   | flat hf=>simp [bA]at hf
   | DO h1=>
    cases h1 with
    | flat hf=>simp [bA]at hf
    | iface h2=>
     split at hk
     ·rename_i g hm
      exact⟨_,U,_,S,_,w,hk,FI hm _ w,.inl rfl,.DO (.iface h2),h,.refl U w⟩
     ·cases hk
  ·rename_i t x1
   generalize hg:a.eval _=v' at hx ⊢;cases hx with
   | flat hf=>simp [bA]at hf
   | iface h1=>exact⟨_,U,_,S,_,w,hk,rfl,.inl rfl,.iface h1,h,.refl U w⟩
  ·cases hk
 ·obtain⟨x,hk,hx⟩:=aK h hA hk
  obtain⟨y,hk,hy⟩:=aK h hA hk;obtain⟨v,hk,hf,hr⟩:=Dj hk hx hy;exact Out.here h hk (.flat hf) (hr _ _ w)
 ·obtain⟨x,hk,hx⟩:=aK h hA hk
  obtain⟨v,hk,hf,hr⟩:=Iv (P:=E.P) hk hx;exact Out.here h hk (.flat hf) (hr w)
 ·obtain⟨x,hk,hx⟩:=aK h hA hk
  exact Out.new (Qi h hk hx)
 ·obtain⟨x,hk,hx⟩:=aK h hA hk
  split at hk
  ·cases hk
  ·rename_i d hd hu
   refine Out.here h hk (.iface hx) ?_;simp only [Instr.makeInterface,bY,run_underlying hu,dK];cases d<;>first | rfl | exact absurd hu (hd _)
  ·cases hk
 ·split at hk
  ·obtain⟨x,hk,hx⟩:=vQ h hA hk
   obtain⟨y,hk,hy⟩:=vQ h hA hk;have hx:=hx.map_toArray;have hy:=hy.map_toArray;exact Out.here h hk (.func hx.1 hy.1 hx.2 hy.2) rfl
  ·split at hk
   ·rename_i x QO hx2
    obtain⟨v,hk,hv⟩:=aK h hA hk;have e1:=gW.1 (show _=(⟨[x]⟩:Array Operand).toList from QO);have e2:=gW.1 (show _=(⟨[]⟩:Array Operand).toList from hx2);subst e1 e2;exact Out.here h hk (.DO hv) (by simp [Instr.makeFunc])
   ·cases hk
  ·cases hk
 ·exact Out.new (LO h hk)
 ·obtain⟨x,hk,hx⟩:=aK h hA hk
  exact Out.new (Dd h hx hk)
 ·obtain⟨x,hk,hx⟩:=aK h hA hk
  exact Out.new (Hj h hk hx)
 ·obtain⟨x,hk,hx⟩:=aK h hA hk
  split at hk
  ·cases hk
  ·obtain⟨v,S',v',w',h1,h2,h3,h4,h5⟩:=Qq (ty:=o.type) h hk hx
   exact Out.new ⟨U,v,S',v',w',h1,h2,h3,h4,h5⟩
 ·obtain⟨x,hk,hx⟩:=aK h hA hk
  obtain⟨v,v',hk,hv,hr⟩:=Lp h hk hx;exact Out.here h hk hv hr
 ·rename_i x xT as ok
  obtain⟨v,hk,hv⟩:=aK h hA hk;split at hk
  ·cases hk
  ·rename_i t u d hni hd
   generalize a.eval x=v' at hv ⊢;cases hv with
   | flat hf=>simp [bA]at hf
   | iface hu=>
    cases hb:Nat.beq t as with
    | false=>rw [hb]at hk;cases ok<;>cases hk
    | true=>
     rw [hb]at hk;have e:=cV hb;cases ok with
     | true=>exact Out.here h hk (.qD (.cons hu (.cons (.flat rfl) (.nil U)))) (LP hd (fun ms e=>hni ms e) e)
     | false=>exact Out.here h hk hu (LP hd (fun ms e=>hni ms e) e)
  ·cases hk
 ·obtain⟨x,hk,hx⟩:=aK h hA hk
  obtain⟨y,hk,hy⟩:=aK h hA hk;exact Out.new (WF h hk hx hy)
 ·rename_i t x lo hi mx
  have hmh:mx.map a.eval=none\/hi.map a.eval≠none:=by
   cases mx with
   | none=>exact .inl rfl
   | some m=>cases hi with
    | none=>exact absurd hk (by simp)
    | some _=>exact .inr (by simp)
  replace hk:(rQ A x fun x=>QI A lo fun lo=>QI A hi fun hi=>QI A mx fun mx=>rE E.P t x lo hi mx S fun v=>K v S)=true:=by
   cases mx<;>cases hi<;>first | exact hk | cases hk
  obtain⟨x,hk,hx⟩:=aK h hA hk;obtain⟨lo,hk,hlo⟩:=yS h hA hk;obtain⟨hi,hk,hhi⟩:=yS h hA hk;obtain⟨mx,hk,hmx⟩:=yS h hA hk
  have hO:∀(x:Option Operand) (v:Option Value),(v=none/\x=none\/∃u y,v=some u/\x=some y/\VR U u (a.eval y))->Ad U v (x.map a.eval):=by
   intro x v hv;rcases hv with ⟨rfl,rfl⟩ | ⟨u,y,rfl,rfl,hr⟩
   ·exact .inl ⟨rfl,rfl⟩
   ·exact .inr ⟨u,_,rfl,rfl,hr⟩
  obtain⟨v,v',hk,hv,hr⟩:=SN h hk hx (hO _ _ hlo) (hO _ _ hhi) (hO _ _ hmx) hmh;exact Out.here h hk hv (hr w)
 ·obtain⟨x,hk,hx⟩:=aK h hA hk
  obtain⟨v,v',hk,hv,hr⟩:=GU hk hx;exact Out.here h hk hv (hr w)
 ·obtain⟨x,hk,hx⟩:=aK h hA hk
  obtain⟨v,v',hk,hv,hr⟩:=SE hk hx;exact Out.here h hk hv (hr w)
 ·obtain⟨x,hk,hx⟩:=aK h hA hk
  obtain⟨y,hk,hy⟩:=aK h hA hk;obtain⟨v,v',hk,hv,hr⟩:=GT hk hx hy;exact Out.here h hk hv (hr w)
 ·obtain⟨x,hk,hx⟩:=aK h hA hk
  obtain⟨y,hk,hy⟩:=aK h hA hk;obtain⟨v,v',hk,hv,hr⟩:=SF hk hx hy;exact Out.here h hk hv (hr w)
 ·obtain⟨x,hk,hx⟩:=aK h hA hk
  obtain⟨y,hk,hy⟩:=aK h hA hk;obtain⟨v,v',hk,hv,hr⟩:=PD h hk hx hy;exact Out.here h hk hv hr
 ·obtain⟨x,hk,hx⟩:=aK h hA hk
  obtain⟨y,hk,hy⟩:=aK h hA hk;obtain⟨z,hk,hz⟩:=aK h hA hk;exact Out.unit (GW h hk hx hy hz)
 ·obtain⟨x,hk,hx⟩:=aK h hA hk
  obtain⟨y,hk,hy⟩:=aK h hA hk;obtain⟨z,hk,hz⟩:=aK h hA hk;exact Out.unit (GW h hk hx hy hz)
 ·obtain⟨x,hk,hx⟩:=aK h hA hk
  obtain⟨y,hk,hy⟩:=aK h hA hk;obtain⟨v,S',v',w',hk,hv,r1,r2,hr⟩:=Aa h hk hx hy;exact Out.new ⟨U,v,S',v',w',hk,hr,hv,r1,r2⟩
 ·obtain⟨x,hk,hx⟩:=aK h hA hk
  obtain⟨y,hk,hy⟩:=aK h hA hk;obtain⟨z,hk,hz⟩:=aK h hA hk;exact Out.unit (SJ h hk hx hy hz)
 ·rename_i tt ix
  obtain⟨x,hk,hx⟩:=aK h hA hk;split at hk
  ·obtain⟨vs',e,hl⟩:=hx.GY
   obtain⟨v,hv,hk⟩:=GV hk;obtain⟨v',CC,hr⟩:=hl.get hv;refine Out.here h hk hr ?_;rw [e];have:vs'[ix]? =some v':=by simpa using CC
   simp [Instr.extract,this]
  ·cases hk
 ·rename_i c
  obtain⟨b,hb⟩:=hq c KG;unfold lU at hk;obtain⟨args,hk,JV⟩:=vQ h hA hk;rw [hb]at hk;simp only at hk;have:=Di (ty:=o.type) (cs:=c.args.map fun | .const _=>true | _=>false) h hk JV;have e:(⟨c.args.toList.map a.eval⟩:Array Value)=c.args.map a.eval:=by apply gW.1;simp
  rw [e]at this
  have e2:(do let d<-resolve a.eval c o.type;invoke d.target d.args:Sem Next)=builtin b c.argTypes o.type (c.args.map fun | .const _=>true | _=>false) (c.args.map a.eval):=by
   unfold resolve;rw [hb];rfl
  rw [e2];exact this
 ·cases hk
end
def JW (ro:Option Nat):Fence:={fn:=fun _=>True,depth:=none,alive:=false,round:=ro}
section
variable (P:Program) (w0:World)
def Good (U:Rn) (w:World) (K:VK) (v':Value) (w':World):Prop:=∃U' v S',K v S'=true/\VR U' v v'/\Rel P w0 U' S' w'/\sQ U w U' w'
def Xp (U:Rn) (w:World) (K:VK) (e:Ending) (w':World):Prop:=∃v',e= .returned v'/\Good P w0 U w K v' w'
def jA (call:aAS):Prop:=∀(f:FuncId) (args:List Value) (S:St) (K:VK) (U:Rn) (w:World) (dI:List Value),call f args S K=true->Rel P w0 U S w->kK U args dI->
 (∀w,(callFunc f ⟨dI⟩).run P w= .ok (.enter f ⟨dI⟩) w)/\CallsIn (JW none) 0 P f ⟨dI⟩ w (Xp P w0 U w K)
def mJ (round:Nat->List Value->St->VK->Bool):Prop:=∀(l:Nat) (args:List Value) (S:St) (K:VK) (U:Rn) (w:World) (dI:List Value) (L:Loc),round l args S K=true->Rel P w0 U S w->kK U args dI->U l=some L->
 ∃f tmps assign body,(Instr.yield L.b ⟨dI⟩).run P w= .ok (.round L.b f tmps assign body) w/\RoundIn (JW none) 0 P L.b f tmps assign body w (Xp P w0 U w K)
def aJD (L:Loc):Deferred:={target:= .collected L.b,args:= #[]}
def Lt (U:Rn) (marks:List Nat) (ds:List Deferred):Prop:=ds.length=marks.length/\∀(k d:Nat),marks[k]? =some d->∃L,U d=some L/\ds[k]? =some (aJD L)
structure SR (U:Rn) (A:aM) (a:Act) (S:St) (w:World):Prop where
 act:vN P U A a
 rel:Rel P w0 U S w
 marks:Lt U A.marks a.defers
end
theorem Lt.mono{U U':Rn} (he:Ext U U'){m:List Nat}{d:List Deferred} (h:Lt U m d):Lt U' m d:=⟨h.1,fun k x hx=>let⟨L,a,b⟩:=h.2 k x hx;⟨L,he _ _ a,b⟩⟩
section
variable{E:Env}{w0:World}{U:Rn}{S:St}{w:World}{ro:Option Nat}
def Next (P:Program) (w0:World) (U:Rn) (w:World) (k:aM->St->Bool) (a':Act) (w':World):Prop:=∃U' A' S',k A' S'=true/\SR P w0 U' A' a' S' w'/\sQ U w U' w'
theorem Next.trans{P:Program}{U1:Rn}{w1:World}{k:aM->St->Bool}{a':Act}{w':World} (s:sQ U w U1 w1) (h:Next P w0 U1 w1 k a' w'):Next P w0 U w k a' w':=
 let⟨U',A',S',h1,h2,h3⟩:=h;⟨U',A',S',h1,h2,s.trans h3⟩
theorem LS{P:Program}{A:aM}{a:Act}{d:Option Tmp}{k:aM->St->Bool} (hs:SR P w0 U A a S w){v':Value}{w':World} (h:Good P w0 U w (fun v S=>lE A d v fun A=>k A S) v' w'):Next P w0 U w k (a.put d v') w':=by
 obtain⟨U',v,S',hk,hv,hr,LT⟩:=h;obtain⟨A',hk,hA',hm⟩:=Qx (hs.act.mono LT.ext) hv hk;refine⟨U',A',S',hk,⟨hA',hr,?_⟩,LT⟩;rw [hm];have:(a.put d v').defers=a.defers:=by cases d<;>rfl
 rw [this];exact hs.marks.mono LT.ext
def aDW:Value->Option Bool
 | .bool b=>some b
 | _=>none
theorem Dk{ops:Array Oper}{tmps:Array Value}{j:Nat}{o:Oper}{d:Tmp}{v:Value} (h1:ops[j]? =some o) (h2:o.dst=some d) (h3:tmps[d]? =some v):yielded ops tmps j=aDW v:=by
 unfold yielded;rw [h1];simp only [VU,h2,h3];cases v<;>rfl
theorem IS{ops:Array Oper}{o:Oper}{A:aM}{a:Act} (hA:vN E.P U A a){k:Bool->Bool} (hk:wS ops o A k=true):k (Region.wanted o (yielded ops a.tmps))=true:=by
 unfold wS at hk;unfold Region.wanted;cases hg:o.guard with
 | none=>rw [hg]at hk;exact hk
 | some jw=>
  obtain⟨j,want⟩:=jw;rw [hg]at hk;simp only at hk ⊢;split at hk
  ·rename_i o' OP
   split at hk
   ·rename_i d hd
    obtain⟨v,hv,hk⟩:=AD hk;obtain⟨v',CC,hr⟩:=hA.tmps.get hv;have Lu:a.tmps[d]? =some v':=by rw [<-CC];simp
    have hy:=Dk OP hd Lu;rw [hy];split at hk
    ·rename_i b
     have e:=hr.of_flat rfl;rw [e];cases b<;>cases want<;>exact hk
    ·rename_i hnb
     have hb:aDW v'=none:=by
      cases v' with
      | bool b=>cases hr with | flat _=>exact absurd rfl (hnb b)
      | _=>rfl
     rw [hb];exact hk
   ·rename_i hd
    have hy:yielded ops a.tmps j=none:=by unfold yielded;rw [OP];simp [hd]
    rw [hy];exact hk
  ·rename_i OP
   have hy:yielded ops a.tmps j=none:=by unfold yielded;rw [OP];simp
   rw [hy];exact hk
theorem Dl (o:Oper) (P:Program) (w:World) (U:Operand->Value):∀f,o.about P w U=some f->(JW ro).fn f:=fun _ _=>trivial
theorem LU{P:Program}{n:Nat}{f:FuncId}{args:Array Value}{R:Ending->World->Prop} (h:CallsIn (JW none) n P f args w R):CallsIn (JW ro) n P f args w R:=h
theorem Qy{P:Program}{n l:Nat}{f:FuncId}{tmps:Array Value}{as bo:Code}{R:Ending->World->Prop} (h:RoundIn (JW none) n P l f tmps as bo w R):RoundIn (JW ro) n P l f tmps as bo w R:=h
theorem Xq{P:Program}{t:TypeId}{name:String}{g:FuncId} (h:DG P t name=some g) (x:Value) (args:Array Value) (w:World):(callMethod (.iface t x) name args).run P w=(callFunc g (#[x]++args)).run P w:=by
 unfold DG at h;split at h
 ·rename_i info d hi hd
  split at h
  ·rename_i m hm
   split at h
   ·rename_i g' pr hp hf
    have hp:m.path= #[]:=gW.1 (by simpa using hp);have aDV:P.types.size+Made.depth=(P.types.size+99)+1:=rfl
    have aGY:(receiverAt t (.val x) pr (if m.path.isEmpty then some ((name.splitOn ".").getLastD name)else none)).run P w= .ok x w/\g'=g:=by
     unfold receiverAt;split at h
     ·injection h with h;subst h
      simp [run_underlying hd,Place.get]
     ·cases h
     ·rename_i CH
      injection h with h;subst h;refine⟨?_,rfl⟩;simp only [bY,run_underlying hd,dK];cases d<;>first | rfl | (exact absurd rfl (CH _))
     ·cases h
    obtain⟨aGY,rfl⟩:=aGY
    have aMj:(method (P.types.size+Made.depth) t x name).run P w= .ok (g',x) w:=by
     rw [aDV];unfold method;simp only [bY,PG hi,dK,hm,hp];unfold follow;simp only [iY,dK,hf];rw [hp]at aGY;simp only [bY,aGY,dK,iY]
    simp only [callMethod,bY,run_program,dK,aMj]
   ·cases h
  ·cases h
 ·cases h
theorem aDX (hc:jA E.P w0 E.call) (hr:mJ E.P w0 E.round) (h:Rel E.P w0 U S w){A:aM}{a:Act} (hA:vN E.P U A a){o:Oper}{K:VK} (hk:uQ E o A S K=true){next:Act->World->Prop}{Q:Exit->Act->World->Prop}
 (hn:∀v' w',Good E.P w0 U w K v' w'->next (a.put o.dst v') w'):o.wpIn (JW ro) 0 E.P a w next Q:=by
 refine⟨Dl o _ _ _,?_⟩;by_cases hq:Quiet o
 ·obtain⟨r,U',v,S',v',w',h1,h2,h3,h4,h5,h6⟩:=aB6 h hA hq hk
  have CH:∀c,o.op≠ .defer c:=fun c e=>by unfold uQ at hk;rw [e]at hk;cases hk
  rw [Oper.semAt_eq _ _ _ CH,h2];rcases h3 with rfl | ⟨rfl,rfl⟩
  ·exact hn v' w' ⟨U',v,S',h1,h4,h5,h6⟩
  ·exact hn undef w' ⟨U',v,S',h1,h4,h5,h6⟩
 ·have:∃c,o.op= .call c/\∀b,c.callee≠ .builtin b:=by
   unfold Quiet at hq;simp only [Classical.not_forall]at hq;obtain⟨c,hc,hb⟩:=hq;exact⟨c,hc,fun b e=>hb ⟨b,e⟩⟩
  obtain⟨c,KG,hnb⟩:=this;rw [Oper.semAt_eq _ _ _ (fun d e=>by rw [KG]at e;cases e)];unfold uQ at hk;unfold execOp;rw [KG]at hk ⊢;simp only at hk ⊢;unfold lU at hk;obtain⟨args,hk,JV⟩:=vQ h hA hk;split at hk
  ·rename_i b hb;exact absurd hb (hnb b)
  ·rename_i f hf
   obtain⟨fv,hk,hfv⟩:=aK h hA hk;split at hk
   ·rename_i g first captured
    rw [kL,kL]at hk;generalize hfe:a.eval f=fv' at hfv;cases hfv with
    | flat Gx=>simp [bA]at Gx
    | func h1 h2 h3 h4=>
     rename_i vR lI;have Xr:kK U first.toList vR.toList:=⟨by simpa using h1,h3⟩
     have Gy:kK U captured.toList lI.toList:=⟨by simpa using h2,h4⟩;obtain⟨he,JX⟩:=hc g _ S K U w _ hk h ((Xr.append JV).append Gy);have e1:(⟨vR.toList++c.args.toList.map a.eval++lI.toList⟩:Array Value)=(vR++c.args.map a.eval)++lI:=by apply gW.1;simp
     rw [e1]at he JX
     have dD:(do let d<-resolve a.eval c o.type;invoke d.target d.args:Sem Go.Next).run E.P w= .ok (.enter g ((vR++c.args.map a.eval)++lI)) w:=by
      simp only [bY,resolve,hf,hfe,Deferred.ofValue,iY,dK,invoke];exact he w
     rw [dD];refine⟨(fun hd=>nomatch hd),CallsIn.mono (LU JX) ?_⟩
     rintro e w' ⟨v',rfl,hg⟩
     exact hn v' w' hg
   ·rename_i l first captured
    split at hk
    ·rename_i hl1 Gz
     have hl1:first= #[]:=gW.1 (by simpa using hl1)
     have Gz:captured= #[]:=gW.1 (by simpa using Gz);subst hl1 Gz;generalize hfe:a.eval f=fv' at hfv;cases hfv with
     | flat Gx=>simp [bA]at Gx
     | yield hL=>
      rename_i L;obtain⟨fn,tmps,as,bo,hy,aJE⟩:=hr l args S K U w _ L hk h JV hL;have e1:(⟨c.args.toList.map a.eval⟩:Array Value)= #[]++c.args.map a.eval:=by apply gW.1;simp
      rw [e1]at hy
      have dD:(do let d<-resolve a.eval c o.type;invoke d.target d.args:Sem Go.Next).run E.P w= .ok (.round L.b fn tmps as bo) w:=by
       simp only [bY,resolve,hf,hfe,Deferred.ofValue,iY,dK,invoke];exact hy
      rw [dD];refine⟨(fun hd=>nomatch hd),RoundIn.mono (Qy aJE) ?_⟩
      rintro e w' ⟨v',rfl,hg⟩
      exact hn v' w' hg
    ·cases hk
   ·cases hk
  ·rename_i r m hf
   obtain⟨fv,hk,hfv⟩:=aK h hA hk;split at hk
   ·rename_i t x
    split at hk
    ·rename_i g hg
     generalize hfe:a.eval r=fv' at hfv;cases hfv with
     | flat Gx=>simp [bA]at Gx
     | @iface _ _ x' hx=>
      obtain⟨he,JX⟩:=hc g _ S K U w _ hk h (kK.cons hx JV);have e1:(⟨x'::c.args.toList.map a.eval⟩:Array Value)= #[x']++c.args.map a.eval:=by apply gW.1;simp
      rw [e1]at he JX
      have dD:(do let d<-resolve a.eval c o.type;invoke d.target d.args:Sem Go.Next).run E.P w= .ok (.enter g (#[x']++c.args.map a.eval)) w:=by
       simp only [bY,resolve,hf,hfe,iY,dK,invoke];have e2:(#[Value.iface t x']++c.args.map a.eval)[0]? =some (Value.iface t x'):=by rw [Array.getElem?_append_left (by simp)];rfl
       have e3:(#[Value.iface t x']++c.args.map a.eval).extract 1 (#[Value.iface t x']++c.args.map a.eval).size=c.args.map a.eval:=by
        apply gW.1;simp [Wz,List.extract];exact uG (by simp)
       simp only [e2,e3];exact(Xq hg x' _ w).trans (he w)
      rw [dD];refine⟨(fun hd=>nomatch hd),CallsIn.mono (LU JX) ?_⟩
      rintro e w' ⟨v',rfl,hg⟩
      exact hn v' w' hg
    ·cases hk
   ·cases hk
theorem aGZ (hc:jA E.P w0 E.call) (hr:mJ E.P w0 E.round){ops:Array Oper}{k:aM->St->Bool}{Q:Exit->Act->World->Prop}:∀(l:List Oper) {U:Rn} {A:aM} {a:Act} {S:St} {w:World},OL E ops l A S k=true->SR E.P w0 U A a S w->
 (∀a' w',Next E.P w0 U w k a' w'->Q .normal a' w')->wpListIn (JW ro) 0 E.P ops Q l a w:=by
 intro l;induction l with
 | nil=>intro U A a S w hk hs hQ;exact hQ a w ⟨U,A,S,hk,hs,.refl U w⟩
 | cons o l ih=>
  intro U A a S w hk hs hQ;have hk:QJ E ops o A S (OL E ops l · · k)=true:=hk;unfold QJ at hk;have hk:=IS hs.act hk;unfold wpListIn
  have go:∀a' w',Next E.P w0 U w (OL E ops l · · k) a' w'->wpListIn (JW ro) 0 E.P ops Q l a' w':=by
   rintro a' w' ⟨U',A',S',h1,h2,h3⟩
   exact ih h1 h2 fun a2 w2 h=>hQ a2 w2 (h.trans h3)
  cases hw:Region.wanted o (yielded ops a.tmps)with
  | true=>
   rw [hw]at hk;simp only [if_true];have hk:uQ E o A S (fun v S=>lE A o.dst v fun A=>OL E ops l A S k)=true:=hk;exact aDX hc hr hs.rel hs.act hk fun v' w' hg=>go _ _ (LS hs hg)
  | false=>
   rw [hw]at hk;simp only [cJ,if_false];have hk:lE A o.dst undef (fun A=>OL E ops l A S k)=true:=hk;exact⟨Dl o _ _ _,go _ _ (LS (k:=fun A S=>OL E ops l A S k) hs ⟨U,undef,S,hk,.undef,hs.rel,.refl U w⟩)⟩
end
section
variable{F:Fence}{n:Nat}{P:Program}{Q:Exit->Act->World->Prop}{a:Act}{w:World}{b:Frame}{k:List Item}{cs:List Frame}
theorem vY{c:Code}:step P (lone (b.atR a (.code (.scope c)::k)) cs w)= .next (lone (b.atR a (.code c:: .inScope c::k)) cs w):=step_lone_go (by simp [stepG,stepG.exec,Frame.atR])
theorem Hm{c:Code}:step P (lone (b.atR a (.inScope c::k)) cs w)= .next (lone (b.atR a k) cs w):=step_lone_go (by simp [stepG,stepG.exec,Frame.atR])
theorem Dm{c:Code} (h:c.wpIn F n P (Exit.noGoto Q) a w):(Code.scope c).wpIn F n P Q a w:=by
 intro b k cs pK hb hr;have h0:(lone (b.atR a (.code (.scope c)::k)) cs w).fenced P F:=fenced_calm hb hr rfl;obtain⟨e,a₁,w₁,hq,aB7⟩:=h b (.inScope c::k) cs pK hb hr;cases e with
 | normal=>exact⟨.normal,a₁,w₁,hq,.head h0 vY (StepsIn.trans aB7 (.one (fenced_calm hb hr rfl) Hm))⟩
 | exit id=>
  have hx:exitTo id (.inScope c::k)=exitTo id k:=by simp [exitTo]
  exact⟨.exit id,a₁,w₁,hq,fun k' hk=> .head h0 vY (aB7.1 k' (by rw [hx];exact hk)),
   fun hr' hk=>let⟨k₁,h1,h2⟩:=aB7.2 hr' (by rw [hx];exact hk);⟨k₁,h1,.head h0 vY h2⟩⟩
 | goto l=>exact hq.elim
 | ret=>exact⟨.ret,a₁,w₁,hq,.of_steps (.one h0 vY) aB7⟩
 | panic ch=>exact⟨.panic ch,a₁,w₁,hq,.of_steps (.one h0 vY) aB7⟩
 | outgrown=>exact⟨.outgrown,a₁,w₁,hq,.of_steps (.one h0 vY) aB7⟩
end
def exR:uB->Exit
 | .normal=> .normal
 | .exit id=> .exit id
 | .ret=> .ret
section
variable{E:Env}{w0:World}
def Arr (P:Program) (w0:World) (U:Rn) (w:World) (K:QK) (e:Exit) (a':Act) (w':World):Prop:=∃U' ae A' S',e=exR ae/\K ae A' S'=true/\SR P w0 U' A' a' S' w'/\sQ U w U' w'
theorem Arr.trans{P:Program}{U U1:Rn}{w w1:World}{K:QK}{e:Exit}{a':Act}{w':World} (s:sQ U w U1 w1) (h:Arr P w0 U1 w1 K e a' w'):Arr P w0 U w K e a' w':=
 let⟨U',ae,A',S',h0,h1,h2,h3⟩:=h;⟨U',ae,A',S',h0,h1,h2,s.trans h3⟩
def RoR (U:Rn) (r ro:Option Nat):Prop:=(r=none/\ro=none)\/∃l L,r=some l/\U l=some L/\ro=some L.b
theorem RoR.mono{U U':Rn} (he:Ext U U'){r ro:Option Nat} (h:RoR U r ro):RoR U' r ro:=by
 rcases h with h | ⟨l,L,h1,h2,h3⟩
 ·exact .inl h
 ·exact .inr ⟨l,L,h1,he _ _ h2,h3⟩
abbrev DrT:=Array Oper->aM->St->(aM->St->Bool)->Bool
def aB8 (E:Env) (w0:World) (dr:DrT):Prop:=∀(ops:Array Oper) (A:aM) (S:St) (k:aM->St->Bool) (U:Rn) (a:Act) (w:World) (ro:Option Nat) (id:Nat) (Q:Exit->Act->World->Prop),dr ops A S k=true->SR E.P w0 U A a S w->
 (∀a' w',Next E.P w0 U w k a' w'->Q .normal a' w')->(Code.region id ops true).wpIn (JW ro) 0 E.P Q a w
theorem exists_least{p:Nat->Prop} (h:∃m,p m):∃m,p m/\∀j,p j->m<=j:=by
 obtain⟨m,hm⟩:=h;induction m using Nat.strongRecOn with
 | _ m ih=>
  by_cases hl:∃j,j<m/\p j
  ·obtain⟨j,hj,hp⟩:=hl;exact ih j hj hp
  ·exact⟨m,hm,fun j hj=>Nat.le_of_not_lt fun hlt=>hl ⟨j,hlt,hj⟩⟩
def least (p:Nat->Prop):Nat:=open Classical in if h:∃m,p m then(exists_least h).choose else 0
theorem IT{p:Nat->Prop}{m:Nat} (h:p m):p (least p)/\least p<=m:=by
 have hx:∃m,p m:=⟨m,h⟩;unfold least;rw [dif_pos hx];exact⟨(exists_least hx).choose_spec.1,(exists_least hx).choose_spec.2 m h⟩
def aDY (body:aM->St->QK->Bool) (K:QK) (m:Nat):aM->St->Bool:=
 IK (β:=aM->St->Bool) (fun _ _=>false) (fun _ ih A S=>body A S fun e A S=>match e with | .normal=>ih A S | e=>K e A S) m
theorem tJ{U:Rn}{S:St}{w:World}{P:Program} (h:Rel P w0 U S w){l:Nat}{tm:Tm}{ps:List Tmp}{as bo:Code}{st:LoopState}{pe:Option Code} (ho:S.obj l=some (.loop tm ps as bo st pe)){L:Loc} (hL:U l=some L):
 ∃r,w0.heap.size<=L.b/\w.heap[L.b]? =some (.loop r)/\r.state=st/\r.pending=pe/\r.params.toList=ps/\r.assign=as/\r.body=bo/\Qz U tm r.tmps.toList:=by
 obtain⟨M,r,h1,h2⟩:=h.DK l _ ho;rw [hL]at h1;injection h1 with h1;subst h1;exact⟨r,h2⟩
theorem LV{U:Rn}{S:St}{w:World}{P:Program} (h:Rel P w0 U S w){l:Nat}{tm:Tm}{ps:List Tmp}{as bo:Code}{st:LoopState}{pe:Option Code} (ho:S.obj l=some (.loop tm ps as bo st pe)){L:Loc} (hL:U l=some L)
 {r:Loop} (hb:w0.heap.size<=L.b) (hr:w.heap[L.b]? =some (.loop r)) (YA:r.params.toList=ps) (has:r.assign=as) (hbo:r.body=bo) (htm:Qz U tm r.tmps.toList) (Ax:LoopState) (pe':Option Code):
 Rel P w0 U (S.set l (.loop tm ps as bo Ax pe')) (w.putObj L.b (.loop {r with state:=Ax,pending:=pe'}))/\sQ U w U (w.putObj L.b (.loop {r with state:=Ax,pending:=pe'}))/\
  (setObj L.b (.loop {r with state:=Ax,pending:=pe'})).run P w= .ok () (w.putObj L.b (.loop {r with state:=Ax,pending:=pe'})):=by
 obtain⟨r1,r2⟩:=h.aGV (o':= .loop tm ps as bo Ax pe') ho rfl rfl rfl hL hb rfl (.loop {r with state:=Ax,pending:=pe'}) (fun hh=>⟨L,_,hL,hb,hh,rfl,rfl,YA,has,hbo,htm⟩);exact⟨r1,r2,by simp [setObj,Sem.run,hr];rfl⟩
theorem run_getLoop{P:Program}{w:World}{b:Nat}{r:Loop} (h:w.heap[b]? =some (.loop r)):(Instr.getLoop b).run P w= .ok r w:=by
 simp [Instr.getLoop,getObj,Sem.run,h]
theorem nE{S:St}{l:Nat}{k:gV->Bool} (h:nV S.h l k=true):∃o,S.obj l=some o/\k o=true:=by
 rw [lB]at h;cases ho:S.h.get l with
 | none=>rw [ho]at h;cases h
 | some o=>rw [ho]at h;exact⟨o,ho,h⟩
end
section
variable{E:Env}{w0:World}
theorem Ra (P:Program) (o:Obj) (w:World):(newObj o).run P w= .ok w.heap.size (w.alloc o):=rfl
theorem Dn (hc:jA E.P w0 E.call){params:Array Tmp}{assign body:Code}{U:Rn}{A:aM}{a:Act}{S:St}{w:World}{K:QK}{ro:Option Nat}{Q:Exit->Act->World->Prop}{g:FuncId}{first captured:List Value}{vR lI:Array Value}
 (h:Rel E.P w0 U S w) (hA:vN E.P U A a) (hD:Lt U A.marks a.defers) {R:Loop} (h1:R.state= .ready) (h2:R.pending=none) (h3:R.tmps=a.tmps) (h4:R.params=params) (h5:R.assign=assign) (h6:R.body=body)
 (hf:kK U first vR.toList) (Lm:kK U captured lI.toList)
 (hk:(sP S (.loop A.tmps params.toList assign body .ready none) fun l S=>
  wQ first [.func (.yield l) #[] #[]] fun as=>wQ as captured fun as=>E.call g as S fun _ S=>
   nV S.h l fun o=>match o with
    | .loop tm ps as bo st pe=>match st with
     | .busy=>false
     | _=>pX S l (.loop tm ps as bo .exhausted pe) fun S=>match pe with
      | none=>K .normal A S
      | some .ret=>K .ret A S
      | some (.exit id)=>K (.exit id) A S
      | _=>false
    | _=>false)=true)
 (hQ:∀e a' w',Arr E.P w0 U w K e a' w'->Q e a' w'):
 (∀w',(callFunc g ((vR++ #[.func (.yield w.heap.size) #[] #[]])++lI)).run E.P w'= .ok (.enter g ((vR++ #[.func (.yield w.heap.size) #[] #[]])++lI)) w')/\
  CallsIn (JW ro) 0 E.P g ((vR++ #[.func (.yield w.heap.size) #[] #[]])++lI) (w.alloc (.loop R)) (rangePost (JW ro) 0 E.P w.heap.size Q a):=by
 rw [gG]at hk
 obtain⟨r1,s1⟩:=h.new (.loop A.tmps params.toList assign body .ready none) (.loop R) ⟨w.heap.size,0,0,0⟩ rfl
  (fun U' he hU=>⟨_,R,hU,h.base.size,by show(w.heap.push _)[w.heap.size]? =_;simp,h1,h2,by rw [h4],h5,h6,by rw [h3];exact hA.tmps.mono he⟩) (by simp [gV.olds])
 have hL:=Rn.jN U S.n ⟨w.heap.size,0,0,0⟩;simp only [kL]at hk
 have JV:kK (U.put S.n ⟨w.heap.size,0,0,0⟩) (first++[.func (.yield S.n) #[] #[]]++captured) (vR.toList++[.func (.yield w.heap.size) #[] #[]]++lI.toList):=
  ((hf.mono s1.ext).append (.cons (.yield hL) (.nil _))).append (Lm.mono s1.ext)
 obtain⟨he,JX⟩:=hc g _ _ _ _ _ _ hk r1 JV;have e1:(⟨vR.toList++[.func (.yield w.heap.size) #[] #[]]++lI.toList⟩:Array Value)=(vR++ #[.func (.yield w.heap.size) #[] #[]])++lI:=by apply gW.1;simp
 rw [e1]at he JX;refine⟨he,CallsIn.mono (LU JX) ?_⟩
 rintro e w' ⟨v',rfl,U',v,S',hk,hv,r2,s2⟩
 obtain⟨o,ho,hk⟩:=nE hk;have Df:U' S.n=some ⟨w.heap.size,0,0,0⟩:=s2.ext _ _ hL;split at hk
 ·rename_i tm ps as bo st pe
  obtain⟨r,hb,hr,Wj,hpe,YA,has,hbo,htm⟩:=tJ r2 ho Df
  have hkk:st≠ .busy/\pX S' S.n (.loop tm ps as bo .exhausted pe) (fun S=>match(generalizing:=false) pe with
   | none=>K .normal A S
   | some .ret=>K .ret A S
   | some (.exit id)=>K (.exit id) A S
   | _=>false)=true:=by
   split at hk
   ·cases hk
   ·rename_i hnb;exact⟨fun e=>hnb e,hk⟩
  obtain⟨hnb,hk⟩:=hkk;rw [fZ]at hk;obtain⟨r3,s3,QQ⟩:=LV r2 ho Df hb hr YA has hbo htm .exhausted pe
  have Qt:(Instr.endLoop w.heap.size).run E.P w'= .ok pe (w'.putObj w.heap.size (.loop {r with state:= .exhausted,pending:=pe})):=by
   have aNU:r.state≠ .busy:=by rw [Wj];exact hnb
   simp [Instr.endLoop,run_getLoop hr,aNU,hpe,QQ]
  have aJF:=(s1.trans s2).trans s3
  have hsr:SR E.P w0 U' A a (S'.set S.n (.loop tm ps as bo .exhausted pe)) (w'.putObj w.heap.size (.loop {r with state:= .exhausted,pending:=pe})):=
   ⟨hA.mono (s1.ext.trans s2.ext),r3,hD.mono (s1.ext.trans s2.ext)⟩
  refine⟨pe,_,Qt,?_⟩;split at hk
  ·exact hQ _ _ _ ⟨U',.normal,A,_,rfl,hk,hsr,aJF⟩
  ·exact wpIn_ret (hQ _ _ _ ⟨U',.ret,A,_,rfl,hk,hsr,aJF⟩)
  ·exact wpIn_exit (hQ _ _ _ ⟨U',.exit _,A,_,rfl,hk,hsr,aJF⟩)
  ·cases hk
 ·cases hk
theorem Iw (hc:jA E.P w0 E.call){f:Operand}{params:Array Tmp}{assign body:Code}{U:Rn}{A:aM}{a:Act}{S:St}{w:World}{K:QK}{r ro:Option Nat}{Q:Exit->Act->World->Prop}
 (hk:QL E r f params assign body A S K=true) (hs:SR E.P w0 U A a S w) (pK:RoR U r ro) (hQ:∀e a' w',Arr E.P w0 U w K e a' w'->Q e a' w'):(Code.rangeFunc f params assign body).wpIn (JW ro) 0 E.P Q a w:=by
 unfold QL at hk;obtain⟨fv,hk,hfv⟩:=aK hs.rel hs.act hk;split at hk
 ·rename_i g first captured
  refine wpIn_rangeFunc fun fn _=>?_;generalize hfe:a.eval f=fv' at hfv;cases hfv with
  | flat Gx=>simp [bA]at Gx
  | func h1 h2 h3 h4=>
   rename_i vR lI;have Xr:kK U first.toList vR.toList:=⟨by simpa using h1,h3⟩
   have Gy:kK U captured.toList lI.toList:=⟨by simpa using h2,h4⟩
   have aMk:∀(l:Nat) (w:World),(resolve a.eval (rangeCall f l) 0).run E.P w= .ok {target:= .fn (.func g) lI,args:=vR++ #[.func (.yield l) #[] #[]]} w:=by
    intro l w;simp [resolve,hfe,Deferred.ofValue];rfl
   rcases pK with ⟨rfl,rfl⟩ | ⟨l,L,rfl,hL,rfl⟩
   ·simp only [gG]at hk
    obtain⟨r1,s1⟩:=hs.rel.new .defers (.deferred (some [])) ⟨w.heap.size,0,0,0⟩ rfl
     (fun U' he hU=>⟨_,hU,hs.rel.base.size,by show(w.heap.push _)[w.heap.size]? =_;simp⟩) (by simp [gV.olds])
    have hLd:=Rn.jN U S.n ⟨w.heap.size,0,0,0⟩
    have hD:Lt (U.put S.n ⟨w.heap.size,0,0,0⟩) (S.n::A.marks) ({target:= .collected w.heap.size,args:= #[]}::a.defers):=by
     refine⟨by simp [hs.marks.1],fun k d hk=>?_⟩;cases k with
     | zero=>simp at hk;subst hk;exact⟨_,hLd,rfl⟩
     | succ k=>simp at hk;obtain⟨L,g1,g2⟩:=hs.marks.2 k d hk;exact⟨L,s1.ext _ _ g1,by simpa using g2⟩
    have Rb:=Dn (Q:=Q) (a:={a with defers:={target:= .collected w.heap.size,args:= #[]}::a.defers}) (A:=⟨A.tmps,S.n::A.marks,A.g⟩) (ro:=none) hc r1 ⟨hs.act.tmps.mono s1.ext,hs.act.g⟩ hD
     (R:={state:= .ready,pending:=none,fn,tmps:=a.tmps,params,assign,body,defers:=w.heap.size}) rfl rfl rfl rfl rfl rfl (Xr.mono s1.ext) (Gy.mono s1.ext) (K:=K) (g:=g) (by rw [gG];exact hk)
     (fun e a' w' h=>hQ e a' w' (h.trans s1))
    refine⟨(w.alloc (.deferred (some []))).heap.size,[{target:= .collected w.heap.size,args:= #[]}],(w.alloc (.deferred (some []))).alloc (.loop {state:= .ready,pending:=none,fn,tmps:=a.tmps,params,assign,body,defers:=w.heap.size}),_,
     (w.alloc (.deferred (some []))).alloc (.loop {state:= .ready,pending:=none,fn,tmps:=a.tmps,params,assign,body,defers:=w.heap.size}),g,_,_,?_,aMk _ _,fun _ _=>trivial,Rb.1 _,(fun hd=>nomatch hd),Rb.2⟩
    simp only [Instr.enterLoop];rfl
   ·obtain⟨o,ho,hk⟩:=nE hk
    split at hk
    ·rename_i tm ps as bo st pe
     obtain⟨r,hb,hr,_⟩:=tJ hs.rel ho hL
     have Rb:=Dn (Q:=Q) (a:=a) (A:=A) (ro:=some L.b) hc hs.rel hs.act hs.marks
      (R:={state:= .ready,pending:=none,fn,tmps:=a.tmps,params,assign,body,defers:=r.defers}) rfl rfl rfl rfl rfl rfl Xr Gy (K:=K) (g:=g) hk hQ
     refine⟨w.heap.size,[],w.alloc (.loop {state:= .ready,pending:=none,fn,tmps:=a.tmps,params,assign,body,defers:=r.defers}),_,w.alloc (.loop {state:= .ready,pending:=none,fn,tmps:=a.tmps,params,assign,body,defers:=r.defers}),g,_,_,?_,aMk _ _,
      fun _ _=>trivial,Rb.1 _,(fun hd=>nomatch hd),Rb.2⟩
     simp only [Instr.enterLoop,JW,bY,run_getLoop hr,Ra,dK,iY]
    ·cases hk
 ·cases hk
end
section
variable{E:Env}{w0:World}
theorem SO (hc:jA E.P w0 E.call) (hr:mJ E.P w0 E.round){dr:DrT} (hd:aB8 E w0 dr):∀(c:Code) {U:Rn} {A:aM} {a:Act} {S:St} {w:World} {K:QK} {r ro:Option Nat} {Q:Exit->Act->World->Prop},
 tB E dr r c A S K=true->SR E.P w0 U A a S w->RoR U r ro->(∀e a' w',Arr E.P w0 U w K e a' w'->Q e a' w')->c.wpIn (JW ro) 0 E.P Q a w:=by
 intro c;induction c with
 | skip=>intro U A a S w K r ro Q hk hs pK hQ;exact wpIn_skip (hQ _ _ _ ⟨U,.normal,A,S,rfl,hk,hs,.refl U w⟩)
 | label l=>intro U A a S w K r ro Q hk hs pK hQ;exact wpIn_label (hQ _ _ _ ⟨U,.normal,A,S,rfl,hk,hs,.refl U w⟩)
 | ret=>intro U A a S w K r ro Q hk hs pK hQ;exact wpIn_ret (hQ _ _ _ ⟨U,.ret,A,S,rfl,hk,hs,.refl U w⟩)
 | exit id=>intro U A a S w K r ro Q hk hs pK hQ;exact wpIn_exit (hQ _ _ _ ⟨U,.exit id,A,S,rfl,hk,hs,.refl U w⟩)
 | goto l=>intro U A a S w K r ro Q hk hs pK hQ;cases hk
 | refuse l=>intro U A a S w K r ro Q hk hs pK hQ;cases hk
 | region id ops draw=>
  intro U A a S w K r ro Q hk hs pK hQ
  have Ha:∀a' w',Next E.P w0 U w (fun A S=>K .normal A S) a' w'->Q .normal a' w':=by
   rintro a' w' ⟨U',A',S',h1,h2,h3⟩
   exact hQ _ _ _ ⟨U',.normal,A',S',rfl,h1,h2,h3⟩
  cases draw with
  | true=>exact hd ops A S _ U a w ro id Q hk hs Ha
  | false=>exact wpIn_region_list (aGZ hc hr ops.toList hk hs Ha)
 | seq x y ihx ihy=>
  intro U A a S w K r ro Q hk hs pK hQ;have hk:tB E dr r x A S (fun e A S=>match e with | .normal=>tB E dr r y A S K | e=>K e A S)=true:=hk;refine wpIn_seq (ihx hk hs pK ?_)
  rintro e a' w' ⟨U',ae,A',S',rfl,h1,h2,h3⟩
  cases ae with
  | normal=>exact ihy h1 h2 (pK.mono h3.ext) fun e a w h=>hQ e a w (h.trans h3)
  | exit id=>exact hQ _ _ _ ⟨U',.exit id,A',S',rfl,h1,h2,h3⟩
  | ret=>exact hQ _ _ _ ⟨U',.ret,A',S',rfl,h1,h2,h3⟩
 | cond c x y ihx ihy=>
  intro U A a S w K r ro Q hk hs pK hQ;have hk:rQ A c (fun v=>match v with | .bool b=>dF b (tB E dr r x A S K) (tB E dr r y A S K) | _=>false)=true:=hk;obtain⟨v,hk,hv⟩:=aK hs.rel hs.act hk;split at hk
  ·rename_i b
   have e:=hv.of_flat rfl;cases b with
   | true=>exact wpIn_cond_true e (ihx hk hs pK hQ)
   | false=>exact wpIn_cond_false e (ihy hk hs pK hQ)
  ·cases hk
 | block id x ih=>
  intro U A a S w K r ro Q hk hs pK hQ
  have hk:tB E dr r x A S (fun e A S=>match e with
   | .exit i=>match Nat.beq i id with | true=>K .normal A S | false=>K (.exit i) A S
   | e=>K e A S)=true:=hk
  refine wpIn_block (ih hk hs pK ?_)
  rintro e a' w' ⟨U',ae,A',S',rfl,h1,h2,h3⟩
  cases ae with
  | normal=>exact hQ _ _ _ ⟨U',.normal,A',S',rfl,h1,h2,h3⟩
  | ret=>exact hQ _ _ _ ⟨U',.ret,A',S',rfl,h1,h2,h3⟩
  | exit i=>
   simp only at h1;show Exit.inBlock id Q (.exit i) a' w';split at h1
   ·rename_i hi
    have hi:=cV hi;subst hi;simp only [Exit.inBlock,if_true];exact hQ _ _ _ ⟨U',.normal,A',S',rfl,h1,h2,h3⟩
   ·rename_i hi
    have hi:=KT hi;simp only [Exit.inBlock,hi,if_false];exact hQ _ _ _ ⟨U',.exit i,A',S',rfl,h1,h2,h3⟩
 | scope x ih=>
  intro U A a S w K r ro Q hk hs pK hQ;have hk:tB E dr r x A S K=true:=hk;refine Dm (ih hk hs pK ?_)
  rintro e a' w' ⟨U',ae,A',S',rfl,h1,h2,h3⟩
  cases ae with
  | normal=>exact hQ _ _ _ ⟨U',.normal,A',S',rfl,h1,h2,h3⟩
  | exit id=>exact hQ _ _ _ ⟨U',.exit id,A',S',rfl,h1,h2,h3⟩
  | ret=>exact hQ _ _ _ ⟨U',.ret,A',S',rfl,h1,h2,h3⟩
 | rangeFunc f ps as bo _ _=>
  intro U A a S w K r ro Q hk hs pK hQ;exact Iw hc hk hs pK hQ
 | loop x ih=>
  intro U A a S w K r ro Q hk hs pK hQ;have hk:aDY (tB E dr r x) K E.most A S=true:=hk
  let I:Nat->Act->World->Prop:=fun m a' w'=>Next E.P w0 U w (aDY (tB E dr r x) K m) a' w'
  refine wpIn_loop (I:=fun a w=>∃m,I m a w) (μ:=fun a w=>least fun m=>I m a w) ⟨E.most,U,A,S,hk,hs,.refl U w⟩ ?_
  rintro a1 w1 ⟨m0,hm0⟩
  obtain⟨hm,_⟩:=IT (p:=fun m=>I m a1 w1) hm0;generalize aNV:least (fun m=>I m a1 w1)=m at hm;obtain⟨U1,A1,S1,h1,h2,h3⟩:=hm;cases m with
  | zero=>cases h1
  | succ m=>
   have h1:tB E dr r x A1 S1 (fun e A S=>match e with | .normal=>aDY (tB E dr r x) K m A S | e=>K e A S)=true:=h1;refine ih h1 h2 (pK.mono h3.ext) ?_
   rintro e a' w' ⟨U',ae,A',S',rfl,g1,g2,g3⟩
   cases ae with
   | normal=>
    have hI:I m a' w':=⟨U',A',S',g1,g2,h3.trans g3⟩;refine⟨⟨m,hI⟩,?_⟩;have:=(IT (p:=fun m=>I m a' w') hI).2;exact Nat.lt_succ_of_le this
   | exit id=>exact hQ _ _ _ ⟨U',.exit id,A',S',rfl,g1,g2,h3.trans g3⟩
   | ret=>exact hQ _ _ _ ⟨U',.ret,A',S',rfl,g1,g2,h3.trans g3⟩
end
section
variable{E:Env}{w0:World}
theorem LW{P:Program}{U:Rn}{S:St}{w:World} (h:Rel P w0 U S w){A:aM}{a:Act} (hA:vN P U A a):∀{rs:List ResultVar} {k:List Value->Bool},qC P rs A S k=true->
 ∃vs vs',k vs=true/\kK U vs vs'/\(rs.mapM (fun | .tmp t=>pure (a.tmps.getD t undef) | .cell x t=>do loadVar t (<-asAddr (a.tmps.getD x undef)):ResultVar->Sem Value)).run P w= .ok vs' w:=by
 intro rs;induction rs with
 | nil=>intro k hk;exact⟨[],[],hk,.nil U,rfl⟩
 | cons x rs ih=>
  intro k hk
  have Ab:∀(t:Tmp) (v v':Value),a.tmps.toList[t]? =some v'->a.tmps.getD t undef=v':=fun t v v' h=>by
   have:a.tmps[t]? =some v':=by simpa using h
   simp [Kk,this]
  cases x with
  | tmp t=>
   have hk:NO A.tmps t (fun v=>qC P rs A S fun vs=>k (v::vs))=true:=hk;obtain⟨v,hv,hk⟩:=AD hk;obtain⟨v',CC,hr⟩:=hA.tmps.get hv;obtain⟨vs,vs',g1,g2,g3⟩:=ih hk;exact⟨_,v'::vs',g1,.cons hr g2,by simp only [VV,bY,Ab t v v' CC,iY,dK,g3]⟩
  | cell x t=>
   have hk:NO A.tmps x (fun a=>GQ P t a S fun v _=>qC P rs A S fun vs=>k (v::vs))=true:=hk;obtain⟨u,hu,hk⟩:=AD hk;obtain⟨u',hu',hr⟩:=hA.tmps.get hu;obtain⟨v,v',hk,hv,dD⟩:=LR h hk hr;obtain⟨vs,vs',g1,g2,g3⟩:=ih hk;refine⟨_,v'::vs',g1,.cons hv g2,?_⟩
   have Aw:(do loadVar t (<-asAddr u'):Sem Value).run P w= .ok v' w:=by
    rw [<-dD];cases u' with
    | pointer ad=>
     cases ad with
     | none=>simp [Instr.loadAt,Instr.sureAddr]at dD
     | some ad=>rfl
    | _=>simp [Instr.loadAt,Instr.sureAddr]at dD
   simp only [VV,bY,Ab x u u' hu',iY];rw [bY]at Aw;rw [Aw,dK,g3];rfl
theorem SP{P:Program}{fn:Func}{tmps:Array Value}{R:Ending->World->Prop}:∀{marks:List Nat} {ds:List Deferred} {U:Rn} {S:St} {w:World} {k:St->Bool},GI marks S k=true->Rel P w0 U S w->Lt U marks ds->
 (∀S' w',k S'=true->Rel P w0 U S' w'->sQ U w U w'->LeavesInM (JW none) 0 P fn tmps R [] .returning w')->LeavesInM (JW none) 0 P fn tmps R ds .returning w:=by
 intro marks;induction marks with
 | nil=>
  intro ds U S w k hk h hD hR;have:ds=[]:=lZ (by simpa using hD.1);subst this;exact hR S w hk h (.refl U w)
 | cons d marks ih=>
  intro ds U S w k hk h hD hR;cases ds with
  | nil=>have:=hD.1;simp at this
  | cons e ds=>
   have hk:nV S.h d (fun o=>match o with | .defers=>pX S d .dead (GI marks · k) | _=>false)=true:=hk;obtain⟨L,hL,he⟩:=hD.2 0 d rfl;simp only [Ce,Option.some.injEq]at he;subst he;obtain⟨o,ho,hk⟩:=nE hk;split at hk
   ·rw [fZ]at hk
    obtain⟨M,g1,g2,g3⟩:=h.DK d _ ho;rw [hL]at g1;injection g1 with g1;subst g1;obtain⟨r1,r2⟩:=h.aGV (o':= .dead) ho rfl rfl rfl hL g2 rfl (.deferred none) (fun _=>trivial);refine⟨by simp,.inl ⟨L.b,w.putObj L.b (.deferred none),rfl,?_,?_⟩⟩
    ·simp [Instr.takeDeferred,getObj,setObj,Sem.run,g3];rfl
    ·refine ih hk r1 ⟨by have:=hD.1;simpa using this,fun k x hx=>hD.2 (k+1) x (by simpa using hx)⟩ fun S' w' h1 h2 h3=>hR S' w' h1 h2 (r2.trans h3)
   ·cases hk
theorem aDZ{U:Rn}{k:Tm->Bool}{n:Nat}:∀{args dI _pre pre':List Value} {T:Tm},(fE (β:=Nat->Tm->Bool) (fun _ T=>k T) (fun a _ ih i T=>qW a T i fun T=>cG (Nat.succ i) fun i=>ih i T) args pre'.length T)=true->kK U args dI->
 Qz U T (pre'++List.replicate (n-pre'.length) undef)->(pre'.length<=n)->∃T',k T'=true/\Qz U T' (pre'++dI++List.replicate (n-(pre'++dI).length) undef):=by
 intro args;induction args with
 | nil=>
  intro dI pre pre' T hk ha hT hn;cases ha.iH;exact⟨T,hk,by simpa using hT⟩
 | cons a as ih=>
  intro dI pre pre' T hk ha hT hn;obtain⟨a',t',rfl,h1,h2⟩:=ha.bU;rw [aO]at hk;obtain⟨hi,hk⟩:=yR hk;rw [aY]at hk
  have hlt:pre'.length<n:=by
   have:=hT.1;simp at this;omega
  have hs:=hT.set hi h1
  have e:(pre'++List.replicate (n-pre'.length) undef).set pre'.length a'=(pre'++[a'])++List.replicate (n-(pre'++[a']).length) undef:=by
   rw [List.set_append_right _ _ (bN _)];have:n-pre'.length=(n-(pre'++[a']).length)+1:=by simp;omega
   rw [this,Kt];simp
  rw [e]at hs
  have tT:(fE (β:=Nat->Tm->Bool) (fun _ T=>k T) (fun a _ ih i T=>qW a T i fun T=>cG (Nat.succ i) fun i=>ih i T) as (pre'++[a']).length (T.put pre'.length a))=true:=by
   simpa using hk
  obtain⟨T',g1,g2⟩:=ih (_pre:=[]) (pre':=pre'++[a']) tT h2 hs (by simp;omega);exact⟨T',g1,by simpa using g2⟩
theorem YJ{U:Rn}{k:Tm->Bool}{n:Nat}{args dI:List Value} (hk:aAR n args k=true) (ha:kK U args dI):
 ∃T,k T=true/\Qz U T ((⟨dI⟩:Array Value)++Array.replicate (n-(⟨dI⟩:Array Value).size) undef).toList:=by
 obtain⟨T,h1,h2⟩:=aDZ (n:=n) (_pre:=[]) (pre':=[]) hk ha ⟨by simp,fun k v hv=>by cases hv⟩ (mP _);exact⟨T,h1,by simpa using h2⟩
theorem Lv (hc:jA E.P w0 E.call) (hr:mJ E.P w0 E.round){dr:DrT} (hd:aB8 E w0 dr) (DP:∀(f:FuncId) (fn:Func),E.P.funcs[f]? =some fn->fn.name≠ "runtime.NumGoroutine"):jA E.P w0 (QM E dr):=by
 intro f args S K U w dI hk h ha;unfold QM at hk;split at hk
 ·rename_i fn hf
  split at hk
  ·rename_i c hb
   refine⟨fun w=>?_,?_⟩
   ·have hn:=DP f fn hf
    have hp:(program).run E.P w= .ok E.P w:=rfl;simp [callFunc,hp,hf,hn,hb]
   ·rw [aY]at hk
    obtain⟨ts,hk,Dc⟩:=YJ hk ha;refine callsIn_of_wp_marks hf hb trivial (SO hc hr hd c (ro:=none) (r:=none) hk ⟨⟨Dc,rfl⟩,h,⟨rfl,by simp⟩⟩ (.inl ⟨rfl,rfl⟩) ?_)
    ·rintro e a' w' ⟨U',ae,A',S',rfl,g1,g2,g3⟩
     have fin:GI A'.marks S' (fun S=>qC E.P fn.results.toList A' S fun vs=>match vs with | [v]=>K v S | vs=>K (.tuple ⟨vs⟩) S)=true->LeavesInM (JW none) 0 E.P fn a'.tmps (Xp E.P w0 U w K) a'.defers .returning w':=by
      intro hk;refine SP hk g2.rel g2.marks fun S2 w2 hk hrel LT=>?_;obtain⟨vs,vs',hk,DQ,dD⟩:=LW hrel g2.act hk
      have aJG:(fn.results.mapM (fun | .tmp t=>pure (a'.tmps.getD t undef) | .cell x t=>do loadVar t (<-asAddr (a'.tmps.getD x undef)):ResultVar->Sem Value)).run E.P w2= .ok ⟨vs'⟩ w2:=by
       rw [<-Xd (xs:=fn.results),List.mapM_toArray];rw [Sem.run_map,dD];rfl
      refine⟨(if h:(⟨vs'⟩:Array Value).size=1 then(⟨vs'⟩:Array Value)[0]else .tuple ⟨vs'⟩),?_,?_⟩
      ·unfold results
       rw [bY];exact(kA (fun r=>Result.andThen r _) aJG).trans rfl
      ·refine⟨_,rfl,?_⟩
       match vs,vs',hk,DQ with
       | [v],[v'],hk,DQ=>exact⟨U',v,S2,hk,DQ.head,hrel,g3.trans LT⟩
       | [],[],hk,DQ=>exact⟨U',_,S2,hk,.qD (.nil _),hrel,g3.trans LT⟩
       | a::b::l,a2::b2::l2,hk,DQ=>
        have:¬(⟨a2::b2::l2⟩:Array Value).size=1:=by simp
        rw [dif_neg this];exact⟨U',_,S2,hk,.qD DQ,hrel,g3.trans LT⟩
       | [],_::_,_,DQ=>have:=DQ.1;simp at this
       | _::_,[],_,DQ=>have:=DQ.1;simp at this
       | [_],_::_::_,_,DQ=>have:=DQ.1;simp at this
       | _::_::_,[_],_,DQ=>have:=DQ.1;simp at this
     cases ae with
     | normal=>exact fin g1
     | ret=>exact fin g1
     | exit id=>cases g1
  ·cases hk
 ·cases hk
end
section
variable{E:Env}{w0:World}
def Rc (ps:List Tmp):List Value->Tm->(Tm->Bool)->Bool:=
 fE (β:=List Value->Tm->(Tm->Bool)->Bool) (fun as ts k=>match as with | []=>k ts | _=>false) (fun p _ ih as ts k=>match as with | a::as=>qW a ts p fun ts=>ih as ts k | []=>false) ps
theorem Do{U:Rn}:∀{ps:List Tmp} {as Xs:List Value} {ts:Tm} {ts':Array Value} {k:Tm->Bool},Rc ps as ts k=true->kK U as Xs->Qz U ts ts'.toList->
 ∃out,k out=true/\Xs.length=ps.length/\Qz U out ((ps.zip Xs).foldl (fun tmps (x:Tmp×Value)=>tmps.setIfInBounds x.1 x.2) ts').toList:=by
 intro ps;induction ps with
 | nil=>
  intro as Xs ts ts' k hk ha ht;unfold Rc at hk;rw [rR]at hk;split at hk
  ·cases ha.iH;exact⟨ts,hk,rfl,ht⟩
  ·cases hk
 | cons p ps ih=>
  intro as Xs ts ts' k hk ha ht;unfold Rc at hk;rw [aO]at hk;split at hk
  ·rename_i a as
   obtain⟨a',t',rfl,h1,h2⟩:=ha.bU;obtain⟨hp,hk⟩:=yR hk;have hk:Rc ps as (ts.put p a) k=true:=hk;obtain⟨out,g1,g2,g3⟩:=ih (ts':=ts'.setIfInBounds p a') hk h2 (by rw [PU];exact ht.set hp h1);exact⟨out,g1,by simp [g2],g3⟩
  ·cases hk
theorem Lw (hc:jA E.P w0 E.call) (hr:mJ E.P w0 E.round){dr:DrT} (hd:aB8 E w0 dr):mJ E.P w0 (WE E dr):=by
 intro l args S K U w dI L hk h ha hL;unfold WE at hk;obtain⟨o,ho,hk⟩:=nE hk;split at hk
 ·rename_i tmps params assign body st pe
  have hk:Rc params args tmps (fun ts=>tB E dr (some l) assign ⟨ts,[],E.P.globals.size⟩ S fun e A S=>match e with
   | .normal=>nV S.h l fun o=>match o with
    | .loop tm ps as bo .ready pe=>pX S l (.loop tm ps as bo .busy pe) fun S=>tB E dr (some l) body A S fun e _ S=>
     nV S.h l fun o=>match o with
      | .loop tm ps as bo _ _=>match e with
       | .normal=>pX S l (.loop tm ps as bo .ready none) fun S=>K (.bool true) S
       | .ret=>pX S l (.loop tm ps as bo .done (some .ret)) fun S=>K (.bool false) S
       | .exit id=>pX S l (.loop tm ps as bo .done (some (.exit id))) fun S=>K (.bool false) S
      | _=>false
    | _=>false
   | _=>false)=true:=hk
  obtain⟨r,hb,hrr,Wj,hpe,YA,has,hbo,htm⟩:=tJ h ho hL;obtain⟨ts,hk,hlen,Dc⟩:=Do hk ha htm
  have Xt:(Instr.yield L.b ⟨dI⟩).run E.P w= .ok (.round L.b r.fn ((r.params.zip ⟨dI⟩).foldl (fun tmps (x:Tmp×Value)=>tmps.setIfInBounds x.1 x.2) r.tmps) r.assign r.body) w:=by
   have hsz:(⟨dI⟩:Array Value).size=r.params.size:=by
    show dI.length=_;rw [hlen,<-YA];rfl
   have uR:¬(⟨dI⟩:Array Value).size≠r.params.size:=fun hh=>hh hsz;simp only [Instr.yield,bY,run_getLoop hrr,dK,if_neg uR,iY]
  refine⟨_,_,_,_,Xt,?_⟩;refine roundIn_of_wpIn trivial ?_;rw [has]
  have aJH:((r.params.zip ⟨dI⟩).foldl (fun tmps (x:Tmp×Value)=>tmps.setIfInBounds x.1 x.2) r.tmps)=(params.zip dI).foldl (fun tmps (x:Tmp×Value)=>tmps.setIfInBounds x.1 x.2) r.tmps:=by
   rw [<-Xg]
   congr 1
   rw [Array.toList_zip,YA]
  rw [aJH];refine SO hc hr hd assign (ro:=some L.b) hk ⟨⟨Dc,rfl⟩,h,⟨rfl,by simp⟩⟩ (.inr ⟨l,L,rfl,hL,rfl⟩) ?_
  rintro e a' w' ⟨U1,ae,A1,S1,rfl,g1,g2,g3⟩
  cases ae with
  | exit id=>cases g1
  | ret=>cases g1
  | normal=>
   simp only at g1;obtain⟨o1,ho1,g1⟩:=nE g1;have Hb:=g3.ext _ _ hL;split at g1
   ·rename_i tm ps as bo pe1
    obtain⟨r1,Dp,aD0,Re,aJI,aJJ,aJK,aJL,aJM⟩:=tJ g2.rel ho1 Hb;obtain⟨q1,q2,q3⟩:=LV g2.rel ho1 Hb Dp aD0 aJJ aJK aJL aJM .busy pe1;rw [fZ]at g1;refine⟨w'.putObj L.b (.loop {r1 with state:= .busy,pending:=pe1}),?_,?_⟩
    ·have q3':(setObj L.b (.loop {r1 with state:= .busy})).run E.P w'= .ok () (w'.putObj L.b (.loop {r1 with state:= .busy,pending:=pe1})):=by
      rw [<-aJI]at q3 ⊢;exact q3
     simp only [Instr.beginRound,bY,run_getLoop aD0,dK,q3',Re,iY]
    ·rw [hbo]
     refine SO hc hr hd body (ro:=some L.b) g1 ⟨g2.act,q1,g2.marks⟩ (.inr ⟨l,L,rfl,Hb,rfl⟩) ?_
     rintro e2 a2 w2 ⟨U2,ae2,A2,S2,rfl,k1,k2,k3⟩
     obtain⟨o2,uK,k1⟩:=nE k1;have Df:=k3.ext _ _ Hb;split at k1
     ·rename_i tm2 ps2 as2 bo2 st2 pe2
      obtain⟨r2,OO,aD1,aG0,aNW,aJN,aJO,aJP,aJQ⟩:=tJ k2.rel uK Df
      have fin:∀(Ax:LoopState) (jump:Option Code) (bv:Bool),K (.bool bv) (S2.set l (.loop tm2 ps2 as2 bo2 Ax jump))=true->bv=jump.isNone->Ax=(if jump.isNone then .ready else .done)->
       ∃v w',(Instr.endRound L.b jump).run E.P w2= .ok v w'/\Xp E.P w0 U w K (.returned v) w':=by
       intro Ax jump bv hK hbv aD2;obtain⟨z1,z2,z3⟩:=LV k2.rel uK Df OO aD1 aJN aJO aJP aJQ Ax jump;refine⟨.bool bv,_,?_,.bool bv,rfl,U2,.bool bv,_,hK,.flat rfl,z1,((g3.trans q2).trans k3).trans z2⟩;rw [aD2]at z3 ⊢;simp only [Instr.endRound,bY,run_getLoop aD1,dK,z3,iY,hbv]
      cases ae2 with
      | normal=>
       simp only [fZ]at k1;exact fin .ready none true k1 rfl rfl
      | ret=>
       simp only [fZ]at k1;exact fin .done (some .ret) false k1 rfl rfl
      | exit id=>
       simp only [fZ]at k1;exact fin .done (some (.exit id)) false k1 rfl rfl
     ·cases k1
   ·cases g1
 ·cases hk
def Dq (P:Program) (w0:World) (ov:FuncId->Option (List Value->St->VK->Bool)):Prop:=∀f g,ov f=some g->jA P w0 (fun f' args S K=>match Nat.beq f' f with | true=>g args S K | false=>false)
theorem aI6 (P:Program) (ov:FuncId->Option (List Value->St->VK->Bool)) (dr:Env->DrT) (most n:Nat):(env P ov dr most n).P=P:=by cases n<;>rfl
theorem aB9{P:Program}{ov:FuncId->Option (List Value->St->VK->Bool)}{dr:Env->DrT}{most:Nat} (hov:Dq P w0 ov) (DP:∀(f:FuncId) (fn:Func),P.funcs[f]? =some fn->fn.name≠ "runtime.NumGoroutine")
 (hdr:∀E:Env,E.P=P->jA P w0 E.call->mJ P w0 E.round->aB8 E w0 (dr E)):∀n,jA P w0 (env P ov dr most n).call/\mJ P w0 (env P ov dr most n).round:=by
 intro n;induction n with
 | zero=>
  refine⟨?_,?_⟩
  ·intro f args S K U w dI hk;cases hk
  ·intro l args S K U w dI L hk;cases hk
 | succ n ih=>
  obtain⟨ih1,ih2⟩:=ih;have hP:=aI6 P ov dr most n;have hd:=hdr (env P ov dr most n) hP ih1 ih2;refine⟨fun f args S K U w dI hk h ha=>?_,?_⟩
  ·have hk:(match(generalizing:=false) ov f with | some g=>g args S K | none=>QM (env P ov dr most n) (dr (env P ov dr most n)) f args S K)=true:=hk
   split at hk
   ·rename_i g hg
    exact hov f g hg f args S K U w dI (by simpa using hk) h ha
   ·have:=Lv (E:=env P ov dr most n) (by rw [hP];exact ih1) (by rw [hP];exact ih2) hd (by rw [hP];exact DP) f args S K U w dI hk (by rw [hP];exact h) ha
    rw [hP]at this;exact this
  ·have:=Lw (E:=env P ov dr most n) (by rw [hP];exact ih1) (by rw [hP];exact ih2) hd
   rw [hP]at this;exact this
end
section
variable{ro:Option Nat}{P:Program}{ops:Array Oper}{Q:Exit->Act->World->Prop}
def Yl (P:Program) (ops:Array Oper) (i:Nat) (v:Value) (a:Act) (w:World):Prop:=
 ∃o,ops[i]? =some o/\((Region.wanted o (yielded ops a.tmps)=true/\(execOp a.eval o).run P w= .ok (.value v) w)\/(Region.wanted o (yielded ops a.tmps)=false/\v=undef))
def dep (ops:Array Oper) (j i:Nat):Bool:=match ops[j]? with | some o=>o.after.any (fun e=>Region.binds .any e&&e.on==i) | none=>false
theorem aCa{j i:Nat}{o:Oper} (hj:ops[j]? =some o) (h:dep ops j i=false):∀e∈o.after,Region.binds .any e=true->e.on≠i:=by
 intro e he hb hi;unfold dep at h;rw [hj]at h;simp only [Array.any_eq_false]at h;obtain⟨k,hk,rfl⟩:=Array.mem_iff_getElem.1 he;have:=h k hk;simp [hb,hi]at this
theorem aCb{i j:Nat}{listed:Array Bool} (hi:listed.getD i false=false) (hj:j∈Region.ready .any ops listed):dep ops j i=false:=by
 obtain⟨_,o,ho,wK⟩:=mem_ready.1 hj;unfold dep;rw [ho];simp only [Array.any_eq_false];intro k hk;have:=wK _ (Array.getElem_mem hk);cases hb:Region.binds .any o.after[k]with
 | false=>simp
 | true=>
  have h2:=this hb;simp only [QD,beq_iff_eq];intro e;rw [e,hi]at h2;cases h2
def Plain (ops:Array Oper):Prop:=∀(j:Nat) (o:Oper),ops[j]? =some o->(∀cs b,o.op≠ .select cs b)/\∀c,o.op≠ .defer c
theorem Yl.put{i:Nat}{v u:Value}{a:Act}{d:Option Tmp}{w:World} (rP:Plain ops) (h:∀o,ops[i]? =some o->∀t,d=some t->t∉o.looksAt ops):Yl P ops i v (a.put d u) w↔Yl P ops i v a w:=by
 unfold Yl;constructor
 ·rintro⟨o,ho,h1⟩
  rw [wanted_put o a d u (h o ho),execOp_put o (rP i o ho).1 a d u (h o ho)]at h1;exact⟨o,ho,h1⟩
 ·rintro⟨o,ho,h1⟩
  refine⟨o,ho,?_⟩;rw [wanted_put o a d u (h o ho),execOp_put o (rP i o ho).1 a d u (h o ho)];exact h1
theorem Yl.run{i:Nat}{o:Oper}{v:Value}{a:Act}{w:World} (rP:Plain ops) (hi:ops[i]? =some o) (h:Yl P ops i v a w){K:Act->World->Prop} (hk:K (a.put o.dst v) w):wpOpIn (JW ro) 0 P ops Q i K a w:=by
 obtain⟨o',OP,h⟩:=h;rw [hi]at OP;injection OP with OP;subst OP;unfold wpOpIn;simp only [hi];rcases h with ⟨hw,hr⟩ | ⟨hw,rfl⟩
 ·simp only [hw,if_true,Oper.wpIn,Oper.semAt_eq _ _ _ (rP i o hi).2,hr,Oper.uponIn]
  exact⟨fun _ _=>trivial,hk⟩
 ·simp only [hw,cJ,if_false]
  exact⟨fun _ _=>trivial,hk⟩
def wY (ro:Option Nat) (P:Program) (ops:Array Oper) (Q:Exit->Act->World->Prop):Nat->List (Nat×Value)->Array Bool->Act->World->Prop
 | 0,J,listed,a,w=>(∀p∈J,Yl P ops p.1 p.2 a w)/\Region.ready .any ops listed=[]/\Q .normal a w
 | f+1,J,listed,a,w=>(∀p∈J,Yl P ops p.1 p.2 a w)/\(Region.ready .any ops listed=[]->Q .normal a w)/\
  ∀j∈Region.ready .any ops listed,wpOpIn (JW ro) 0 P ops Q j (wY ro P ops Q f (J.filter fun p=> !dep ops j p.1) (listed.setIfInBounds j true)) a w
theorem wY.yl{f:Nat}{J:List (Nat×Value)}{listed:Array Bool}{a:Act}{w:World} (h:wY ro P ops Q f J listed a w):∀p∈J,Yl P ops p.1 p.2 a w:=by cases f<;>exact h.1
theorem wY.mono:∀{f:Nat} {J J':List (Nat×Value)} {listed:Array Bool} {a:Act} {w:World},wY ro P ops Q f J listed a w->(∀p∈J',p∈J)->wY ro P ops Q f J' listed a w:=by
 intro f;induction f with
 | zero=>intro J J' listed a w h hs;exact⟨fun p hp=>h.1 p (hs p hp),h.2⟩
 | succ f ih=>
  intro J J' listed a w h hs;refine⟨fun p hp=>h.1 p (hs p hp),h.2.1,fun j hj=>wpOpIn_mono (fun a w h=>ih h fun p hp=>?_) (h.2.2 j hj)⟩;rw [dU]at hp ⊢;exact⟨hs p hp.1,hp.2⟩
theorem wY.any:∀{f:Nat} {J:List (Nat×Value)} {listed:Array Bool} {a:Act} {w:World},wY ro P ops Q f J listed a w->wpAnyIn (JW ro) 0 P .any ops Q f listed a w:=by
 intro f;induction f with
 | zero=>intro J listed a w h;exact h.2
 | succ f ih=>intro J listed a w h;exact⟨h.2.1,fun j hj=>wpOpIn_mono (fun a w h=>ih h) (h.2.2 j hj)⟩
theorem Rf (rP:Plain ops){j:Nat}{oi oj:Oper}{v:Value} (hj:ops[j]? =some oj) (Wk:oi.apart ops oj=true) (hQ:∀c a w,¬Q (.panic c) a w){K:Act->World->Prop}{a:Act}{w:World}
 (h:wpOpIn (JW ro) 0 P ops Q j K (a.put oi.dst v) w):wpOpIn (JW ro) 0 P ops Q j (fun a' w'=>K (a'.put oi.dst v) w') a w:=by
 obtain⟨h1,h2,h3⟩:=Oper.apart_spec Wk;obtain⟨p1,p2⟩:=rP j oj hj;unfold wpOpIn at*;simp only [hj]at*;rw [wanted_put oj a oi.dst v h1]at h;split
 ·rename_i hw
  simp only [hw,if_true]at h;unfold Oper.wpIn at*;refine⟨fun _ _=>trivial,?_⟩;have h:=h.2;rw [Oper.semAt_eq _ _ _ p2,execOp_put oj p1 a oi.dst v h1]at h;rw [Oper.semAt_eq _ _ _ p2];generalize (execOp a.eval oj).run P w=r at*;cases r with
  | ok x w'=>
   cases x<;>simp only [Oper.uponIn]at h ⊢
   case value u=>rw [<-Act.put_comm a v u h2];exact h
   case skip=>rw [<-Act.put_comm a v undef h2];exact h
   case defer d=>
    rw [<-Act.put_comm _ v undef h2,<-Act.put_defers];exact h
   case enter f args=>
    refine⟨h.1,CallsIn.mono h.2 fun e w'' he=>?_⟩;cases e with
    | returned u=>show K _ _;rw [<-Act.put_comm a v u h2];exact he
    | panicked c=>exact absurd he (hQ _ _ _)
    | outgrown=>exact he
   case row row args=>exact⟨h.1,RowsIn.mono h.2 fun u w'' he=>by rw [<-Act.put_comm a v u h2];exact he⟩
   case round l f tmps assign body=>
    refine⟨h.1,RoundIn.mono h.2 fun e w'' he=>?_⟩;cases e with
    | returned u=>show K _ _;rw [<-Act.put_comm a v u h2];exact he
    | panicked c=>exact absurd he (hQ _ _ _)
    | outgrown=>exact he
  | halt x w'=>
   cases x<;>simp only [Oper.uponIn]at h ⊢
   case panic u=>exact absurd h (hQ _ _ _)
 ·rename_i hw
  simp only [hw]at h;exact⟨fun _ _=>trivial,by rw [<-Act.put_comm a v undef h2];exact h.2⟩
theorem wY.take (rP:Plain ops) (hQ:∀c a w,¬Q (.panic c) a w){i:Nat}{oi:Oper}{v:Value} (hi:ops[i]? =some oi) (FJ:∀d,oi.dst=some d->d∉oi.looksAt ops):
 ∀(f:Nat) (J:List (Nat×Value)) (listed:Array Bool) (a:Act) (w:World),
  (∀j oj,ops[j]? =some oj->j≠i->listed.getD j true=false->(∀e∈oj.after,Region.binds .any e=true->e.on≠i)->oi.apart ops oj=true)->
  (∀p∈J,∀o,ops[p.1]? =some o->∀t,oi.dst=some t->t∉o.looksAt ops)->i∈Region.ready .any ops listed->
  wY ro P ops Q f ((i,v)::J) (listed.setIfInBounds i true) (a.put oi.dst v) w->wY ro P ops Q (f+1) J listed a w:=by
 intro f;have aI7:∀(a:Act) (w:World),Yl P ops i v (a.put oi.dst v) w->Yl P ops i v a w:=fun a w h=>(Yl.put rP (fun o ho t ht=>by rw [hi]at ho;injection ho with ho;subst ho;exact FJ t ht)).1 h;induction f with
 | zero=>
  intro J listed a w BT hJ hr H;have hY:=H.yl;refine⟨fun p hp=>(Yl.put rP (hJ p hp)).1 (hY p (.tail _ hp)),fun h=>(by rw [h]at hr;cases hr),fun j hj=>?_⟩;by_cases Ln:j=i
  ·subst Ln
   exact Yl.run rP hi (aI7 a w (hY _ (.head _))) (wY.mono H fun p hp=> .tail _ (dU.1 hp).1)
  ·have:=ready_mono hj Ln
   rw [H.2.1]at this;cases this
 | succ f ih=>
  intro J listed a w BT hJ hr H;have hY:=H.yl;refine⟨fun p hp=>(Yl.put rP (hJ p hp)).1 (hY p (.tail _ hp)),fun h=>(by rw [h]at hr;cases hr),fun j hj=>?_⟩;by_cases Ln:j=i
  ·subst Ln
   exact Yl.run rP hi (aI7 a w (hY _ (.head _))) (wY.mono H fun p hp=> .tail _ (dU.1 hp).1)
  ·have h1:=H.2.2 j (ready_mono hj Ln)
   obtain⟨aMl,oj,hoj,wK⟩:=mem_ready.1 hj
   have aNX:listed.getD i false=false:=by
    have h0:=(mem_ready.1 hr).1;rcases yL i listed.size with h' | h'
    ·simp [h']at h0 ⊢;exact h0
    ·simp [Ww h']at h0
   have aG1:=aCb aNX hj;have h2:=Rf rP hoj (BT j oj hoj Ln aMl (aCa hoj aG1)) hQ h1;refine wpOpIn_mono (fun a' w' h3=>ih _ (listed.setIfInBounds j true) a' w' (fun k ok hk hki hun CH=>?_) (fun p hp=>hJ p (dU.1 hp).1) (ready_mono hr (dV Ln)) ?_) h2
   ·refine BT k ok hk hki ?_ CH
    by_cases Xu:j=k
    ·subst Xu;exact aMl
    ·rw [getD_set_ne true Xu]at hun;exact hun
   ·rw [Array.setIfInBounds_comm _ _ Ln]
    rw [List.filter_cons_of_pos (by simp [aG1])]at h3;exact h3
end
section
variable{E:Env}{w0:World}{U:Rn}{S:St}{w:World}
def oU (P:Program) (o:Oper):Bool:=match o.op with
 | .move _ | .assign _ | .pick .. | .build .. | .nilCheck _ | .binOp .. | .unOp .. | .makeInterface .. | .makeFunc .. | .slice .. | .fieldAddr .. | .field .. | .indexAddr .. | .index .. | .extract .. =>true
 | .convert _ d _=>match P.underlying d with | some (.int _)=>true | _=>false
 | .call c=>match c.callee with
  | .builtin .len=>match c.argTypes.toList with | t::_=>(match P.underlying t with | some (.slice _) | some .string=>true | _=>false) | []=>false
  | _=>false
 | _=>false
def wZ (o:Oper):Bool:=match o.op with
 | .load .. | .lookup .. =>true
 | _=>false
def KH (P:Program) (U:Rn) (S:St) (K:VK) (s:Sem Go.Next):Prop:=∃v v',K v S=true/\VR U v v'/\∀w,s.run P w= .ok (.value v') w
theorem KH.mk{P:Program}{K:VK}{s:Sem Value}{v v':Value} (hk:K v S=true) (hv:VR U v v') (hr:∀w,s.run P w= .ok v' w):KH P U S K (do pure (.value (<-s))):=
 ⟨v,v',hk,hv,fun w=>by rw [bY,hr];rfl⟩
theorem IU (h:Rel E.P w0 U S w){A:aM}{a:Act} (hA:vN E.P U A a){o:Oper} (hp:oU E.P o=true){K:VK} (hk:uQ E o A S K=true):KH E.P U S K (execOp a.eval o):=by
 unfold uQ at hk;unfold execOp;unfold oU at hp;split at hk<;>first | (cases hk;done) | skip
 all_goals (rename_i KG;rw [KG]at hp;first | (cases hp;done) | skip)
 all_goals (simp only [KG])
 ·obtain⟨v,hk,hv⟩:=aK h hA hk
  exact⟨v,_,hk,hv,fun w=>rfl⟩
 ·obtain⟨v,hk,hv⟩:=aK h hA hk
  exact⟨v,_,hk,hv,fun w=>rfl⟩
 ·obtain⟨c,hk,hc⟩:=aK h hA hk
  obtain⟨x,hk,hx⟩:=aK h hA hk;obtain⟨y,hk,hy⟩:=aK h hA hk;split at hk
  ·have:=hc.of_flat rfl
   exact⟨_,_,hk,hx,fun w=>by simp [this,asBool]⟩
  ·have:=hc.of_flat rfl
   exact⟨_,_,hk,hy,fun w=>by simp [this,asBool]⟩
  ·cases hk
 ·obtain⟨v,v',hk,hv,hr⟩:=SG h hA hk
  exact KH.mk hk hv hr
 ·obtain⟨x,hk,hx⟩:=aK h hA hk
  split at hk
  ·rename_i ad
   obtain⟨i,off,sp⟩:=ad;have hx2:=hx;obtain⟨_,L,hL,e⟩:=hx.CB;rw [e]at hx2 ⊢;exact⟨_,_,hk,hx2,fun w=>rfl⟩
  ·rename_i f x1 x2
   generalize hg:a.eval _=v' at hx ⊢;cases hx with
   | flat hf=>simp [bA]at hf
   | func h1 h2 h3 h4=>exact⟨_,_,hk,.func h1 h2 h3 h4,fun w=>rfl⟩
  ·rename_i f x1 x2
   generalize hg:a.eval _=v' at hx ⊢;cases hx with
   | flat hf=>simp [bA]at hf
   | yield h1=>exact⟨_,_,hk,.yield h1,fun w=>rfl⟩
  ·rename_i s t x1
   generalize hg:a.eval _=v' at hx ⊢;cases hx with
   | flat hf=>simp [bA]at hf
   | DO h1=>
    cases h1 with
    | flat hf=>simp [bA]at hf
    | iface h2=>
     split at hk
     ·rename_i g hm
      exact⟨_,_,hk,.DO (.iface h2),fun w=>FI hm _ w⟩
     ·cases hk
  ·rename_i t x1
   generalize hg:a.eval _=v' at hx ⊢;cases hx with
   | flat hf=>simp [bA]at hf
   | iface h1=>exact⟨_,_,hk,.iface h1,fun w=>rfl⟩
  ·cases hk
 ·obtain⟨x,hk,hx⟩:=aK h hA hk
  obtain⟨y,hk,hy⟩:=aK h hA hk;obtain⟨v,hk,hf,hr⟩:=Dj hk hx hy;exact KH.mk hk (.flat hf) (hr _ _)
 ·obtain⟨x,hk,hx⟩:=aK h hA hk
  obtain⟨v,hk,hf,hr⟩:=Iv (P:=E.P) hk hx;exact KH.mk hk (.flat hf) hr
 ·
   rename_i s d x;obtain⟨x,hk,hx⟩:=aK h hA hk;simp only at hp;split at hp
   ·rename_i kd hd
    unfold XX at hk;split at hk
    ·rename_i kk n
     rw [hx.of_flat rfl];split at hk
     ·rename_i dd k hs hd2
      unfold GH at hk;rw [mI,LI]at hk;refine KH.mk hk (.flat rfl) fun w=>?_;simp [convert,run_underlying hs,run_underlying hd2,Conv.intToInt]
     ·cases hk
    ·split at hk
     ·rename_i h1 h2;rw [hd]at h2;cases h2
     ·rename_i h1 h2;rw [hd]at h2;cases h2
     ·cases hk
    ·split at hk
     ·rename_i h1 h2;rw [hd]at h2;cases h2
     ·cases hk
    ·split at hk
     ·cases hk
     ·rename_i h1 h2 _;rw [hd]at h2;cases h2
     ·cases hk
    ·cases hk
   ·cases hp
 ·obtain⟨x,hk,hx⟩:=aK h hA hk
  split at hk
  ·cases hk
  ·rename_i d hd hu
   refine KH.mk hk (.iface hx) fun w=>?_;simp only [Instr.makeInterface,bY,run_underlying hu,dK];cases d<;>first | rfl | exact absurd hu (hd _)
  ·cases hk
 ·split at hk
  ·obtain⟨x,hk,hx⟩:=vQ h hA hk
   obtain⟨y,hk,hy⟩:=vQ h hA hk;have hx:=hx.map_toArray;have hy:=hy.map_toArray;exact KH.mk hk (.func hx.1 hy.1 hx.2 hy.2) fun w=>rfl
  ·split at hk
   ·rename_i x QO hx2
    obtain⟨v,hk,hv⟩:=aK h hA hk;have e1:=gW.1 (show _=(⟨[x]⟩:Array Operand).toList from QO);have e2:=gW.1 (show _=(⟨[]⟩:Array Operand).toList from hx2);subst e1 e2;exact KH.mk hk (.DO hv) fun w=>by simp [Instr.makeFunc]
   ·cases hk
  ·cases hk
 ·rename_i t x lo hi mx
  have hmh:mx.map a.eval=none\/hi.map a.eval≠none:=by
   cases mx with
   | none=>exact .inl rfl
   | some m=>cases hi with
    | none=>exact absurd hk (by simp)
    | some _=>exact .inr (by simp)
  replace hk:(rQ A x fun x=>QI A lo fun lo=>QI A hi fun hi=>QI A mx fun mx=>rE E.P t x lo hi mx S fun v=>K v S)=true:=by
   cases mx<;>cases hi<;>first | exact hk | cases hk
  obtain⟨x,hk,hx⟩:=aK h hA hk;obtain⟨lo,hk,hlo⟩:=yS h hA hk;obtain⟨hi,hk,hhi⟩:=yS h hA hk;obtain⟨mx,hk,hmx⟩:=yS h hA hk
  have hO:∀(x:Option Operand) (v:Option Value),(v=none/\x=none\/∃u y,v=some u/\x=some y/\VR U u (a.eval y))->Ad U v (x.map a.eval):=by
   intro x v hv;rcases hv with ⟨rfl,rfl⟩ | ⟨u,y,rfl,rfl,hr⟩
   ·exact .inl ⟨rfl,rfl⟩
   ·exact .inr ⟨u,_,rfl,rfl,hr⟩
  obtain⟨v,v',hk,hv,hr⟩:=SN h hk hx (hO _ _ hlo) (hO _ _ hhi) (hO _ _ hmx) hmh;exact KH.mk hk hv hr
 ·obtain⟨x,hk,hx⟩:=aK h hA hk
  obtain⟨v,v',hk,hv,hr⟩:=GU hk hx;exact KH.mk hk hv hr
 ·obtain⟨x,hk,hx⟩:=aK h hA hk
  obtain⟨v,v',hk,hv,hr⟩:=SE hk hx;exact KH.mk hk hv hr
 ·obtain⟨x,hk,hx⟩:=aK h hA hk
  obtain⟨y,hk,hy⟩:=aK h hA hk;obtain⟨v,v',hk,hv,hr⟩:=GT hk hx hy;exact KH.mk hk hv hr
 ·obtain⟨x,hk,hx⟩:=aK h hA hk
  obtain⟨y,hk,hy⟩:=aK h hA hk;obtain⟨v,v',hk,hv,hr⟩:=SF hk hx hy;exact KH.mk hk hv hr
 ·rename_i tt ix
  obtain⟨x,hk,hx⟩:=aK h hA hk;split at hk
  ·obtain⟨vs',e,hl⟩:=hx.GY
   obtain⟨v,hv,hk⟩:=GV hk;obtain⟨v',CC,hr⟩:=hl.get hv;refine KH.mk hk hr fun w=>?_;rw [e];have:vs'[ix]? =some v':=by simpa using CC
   simp [Instr.extract,this]
  ·cases hk
 ·
   rename_i c;simp only at hp;split at hp
   ·rename_i hb
    split at hp
    ·rename_i t rest Dc
     have h0:c.argTypes[0]? =some t:=by have:=kA (·[0]?) Dc;simpa using this
     unfold lU at hk;obtain⟨args,hk,JV⟩:=vQ h hA hk;rw [hb]at hk;simp only at hk
     have e2:(do let d<-resolve a.eval c o.type;invoke d.target d.args:Sem Go.Next)=(do pure (.value (<-Builtin.len_ c.argTypes o.type (c.args.map a.eval)))):=by
      unfold resolve;rw [hb];rfl
     rw [e2];have e:(c.args.map a.eval)=⟨c.args.toList.map a.eval⟩:=by apply gW.1;simp
     rw [e];generalize c.args.toList.map a.eval=dI at JV;unfold mY at hk;split at hk<;>first | (cases hk;done) | (rename_i hbb;cases hbb;done) | skip
     rename_i x _;obtain⟨x',t',rfl,hx,ht'⟩:=JV.bU;cases ht'.iH;rw [Dc]at hk;simp only at hk;split at hk
     ·rename_i base n cc
      split at hk
      ·rename_i e he
       have hu:=fS he;refine KH.mk hk (v':= .int .i64 (n:Int)) .nat fun w=>?_;have main:∀b' c',(Builtin.len_ c.argTypes o.type ⟨[.slice b' n c']⟩).run E.P w= .ok (.int .i64 (n:Int)) w:=fun b' c'=>by simp [Builtin.len_,h0,run_underlying hu,goInt]
       cases hx with
       | flat _=>exact main _ _
       | slice _=>exact main _ _
       | oG _ _ _ _ _=>exact main _ _
       | wT=>exact main _ _
       | wU _=>exact main _ _
      ·cases hk
     ·rename_i s
      rw [hx.of_flat rfl];split at hk
      ·rename_i hu
       rw [jT]at hk;refine KH.mk hk (v':= .int .i64 (s.data.toList.length:Int)) .nat fun w=>?_;simp [Builtin.len_,h0,run_underlying hu,goInt]
      ·cases hk
     ·split at hk
      ·rename_i q hm
       have hu:=vX hm;rw [hu]at hp;cases hp
      ·cases hk
     ·split at hk
      ·rename_i n e hu
       rw [hu]at hp;cases hp
      ·cases hk
     ·cases hk
    ·cases hp
   ·cases hp
theorem SQ (h:Rel E.P w0 U S w){A:aM}{a:Act} (hA:vN E.P U A a){o:Oper} (hp:wZ o=true){K:VK} (hk:uQ E o A S K=true):
 ∃v v',K v S=true/\VR U v v'/\(execOp a.eval o).run E.P w= .ok (.value v') w:=by
 unfold uQ at hk;unfold execOp;unfold wZ at hp;split at hk<;>first | (cases hk;done) | skip
 all_goals (rename_i KG;rw [KG]at hp;first | (cases hp;done) | skip)
 all_goals (simp only [KG])
 ·obtain⟨x,hk,hx⟩:=aK h hA hk
  obtain⟨v,v',hk,hv,hr⟩:=LR h hk hx;exact⟨v,v',hk,hv,by rw [bY,hr];rfl⟩
 ·obtain⟨x,hk,hx⟩:=aK h hA hk
  obtain⟨y,hk,hy⟩:=aK h hA hk;obtain⟨v,v',hk,hv,hr⟩:=PD h hk hx hy;exact⟨v,v',hk,hv,by rw [bY,hr];rfl⟩
end
def SS:Value->Value->Bool
 | .bool a,.bool b=>a==b
 | .int j a,.int k b=>yM j k&&Au a b
 | .string a,.string b=>ZW a.data.toList b.data.toList
 | .pointer none,.pointer none | .nilFunc,.nilFunc | .nilIface,.nilIface | .map none,.map none=>true
 | .pointer (some ⟨i,o,none⟩),.pointer (some ⟨j,p,none⟩)=>Nat.beq i j&&Nat.beq o p
 | .slice none n c,.slice none m d=>Nat.beq n m&&Nat.beq c d
 | .slice (some ⟨i,o,none⟩) n c,.slice (some ⟨j,p,none⟩) m d=>(Nat.beq i j&&Nat.beq o p)&&(Nat.beq n m&&Nat.beq c d)
 | .map (some i),.map (some j)=>Nat.beq i j
 | .slice (some ⟨i,o,some 0⟩) n c,.slice (some ⟨j,p,some 0⟩) m d=>(Nat.beq i j&&Nat.beq o p)&&(Nat.beq n m&&Nat.beq c d)
 | .slice (some ⟨i,o,some (s+2)⟩) _ _,.slice (some ⟨j,p,some (t+2)⟩) _ _=>(Nat.beq i j&&Nat.beq o p)&&Nat.beq s t
 | .func (.func f) ⟨[]⟩ ⟨[]⟩,.func (.func g) ⟨[]⟩ ⟨[]⟩=>Nat.beq f g
 | .func (.func f) ⟨[]⟩ ⟨[.pointer (some ⟨i,o,none⟩)]⟩,.func (.func g) ⟨[]⟩ ⟨[.pointer (some ⟨j,p,none⟩)]⟩=>Nat.beq f g&&(Nat.beq i j&&Nat.beq o p)
 | .func (.yield i) ⟨[]⟩ ⟨[]⟩,.func (.yield j) ⟨[]⟩ ⟨[]⟩=>Nat.beq i j
 | _,_=>false
def CJ (f:Value->Value->Bool):List Value->List Value->Bool
 | [],[]=>true
 | a::l,b::m=>f a b&&CJ f l m
 | _,_=>false
def YK:Nat->Value->Value->Bool
 | 0,a,b=>SS a b
 | n+1,.func (.func f) ⟨a⟩ ⟨c⟩,.func (.func g) ⟨b⟩ ⟨d⟩=>Nat.beq f g&&(CJ (YK n) a b&&CJ (YK n) c d)
 | _+1,a,b=>SS a b
def Rh (a b:Value):Bool:=YK 3 a b
def Ix:List Value->List Value->Bool
 | [],[]=>true
 | a::l,b::m=>Rh a b&&Ix l m
 | _,_=>false
def YL:Value->Value->Bool
 | .agg a,.agg b=>Ix a.toList b.toList
 | a,b=>Rh a b
def WL:List Value->List Value->Bool
 | [],[]=>true
 | a::l,b::m=>YL a b&&WL l m
 | _,_=>false
def JY:Value->Value->Bool
 | .tuple a,.tuple b=>WL a.toList b.toList
 | a,b=>YL a b
theorem VR.aI8{U:Rn}{f:FuncId}{x:Value} (h:VR U (.func (.func f) ⟨[]⟩ ⟨[]⟩) x):x= .func (.func f) ⟨[]⟩ ⟨[]⟩:=by
 cases h with
 | flat h=>simp [bA]at h
 | @func _ _ a' _ c' ha hc _ _=>
  rw [Ws (xs:=a') (by simpa using ha.symm),Ws (xs:=c') (by simpa using hc.symm)]
theorem VR.aI9{U:Rn}{f:FuncId}{i o:Nat}{x:Value} (h:VR U (.func (.func f) ⟨[]⟩ ⟨[.pointer (some ⟨i,o,none⟩)]⟩) x):∃L,U i=some L/\x= .func (.func f) ⟨[]⟩ ⟨[.pointer (some ⟨L.b,L.s+o,none⟩)]⟩:=by
 cases h with
 | flat h=>simp [bA]at h
 | @func _ _ a' _ c' ha hc _ h2=>
  obtain⟨l⟩:=c'
  match l,hc,h2 with
  | [p],_,h2=>
   have hp:=h2 0 _ _ rfl rfl;obtain⟨_,L,hL,rfl⟩:=hp.CB;exact⟨L,hL,by rw [Ws (xs:=a') (by simpa using ha.symm)]⟩
theorem VR.Iy{U:Rn}{l:Nat}{x:Value} (h:VR U (.func (.yield l) ⟨[]⟩ ⟨[]⟩) x):∃L,U l=some L/\x= .func (.yield L.b) #[] #[]:=by
 cases h with
 | flat h=>simp [bA]at h
 | yield h=>exact⟨_,h,rfl⟩
theorem YM{U:Rn}{a b x y:Value} (h:SS a b=true) (hx:VR U a x) (hy:VR U b y):x=y:=by
 unfold SS at h;split at h
 ·have e:=eq_of_beq h;subst e;rw [hx.of_flat rfl,hy.of_flat rfl]
 ·rw [bT]at h
  have e1:=DL h.1;subst e1;have e2:=h.2;rw [tD]at e2;have e2:=eq_of_beq e2;subst e2;rw [hx.of_flat rfl,hy.of_flat rfl]
 ·rw [CF]at h
  have e:=eq_of_beq h;rw [hx.of_flat rfl,hy.of_flat rfl,ByteArray.ext (gW.1 e)]
 ·rw [hx.of_flat rfl,hy.of_flat rfl]
 ·rw [hx.of_flat rfl,hy.of_flat rfl]
 ·rw [hx.of_flat rfl,hy.of_flat rfl]
 ·rw [hx.of_flat rfl,hy.of_flat rfl]
 ·rw [bT]at h
  have e1:=cV h.1;have e2:=cV h.2;subst e1 e2;obtain⟨_,L,hL,rfl⟩:=hx.CB;obtain⟨_,M,hM,rfl⟩:=hy.CB;rw [hL]at hM;injection hM with hM;subst hM;rfl
 ·rw [bT]at h
  have e1:=cV h.1;have e2:=cV h.2;subst e1 e2;rw [hx.of_flat rfl,hy.of_flat rfl]
 ·simp only [bT]at h
  have e1:=cV h.1.1;have e2:=cV h.1.2;have e3:=cV h.2.1;have e4:=cV h.2.2;subst e1 e2 e3 e4;rcases hx.iG with ⟨L,c1,hL,rfl,⟨_,rfl⟩ | ⟨hs,_⟩⟩ | ⟨⟨_,hs⟩,_⟩
  ·rcases hy.iG with ⟨M,c2,hM,rfl,⟨_,rfl⟩ | ⟨hs,_⟩⟩ | ⟨⟨_,hs⟩,_⟩
   ·rw [hL]at hM;injection hM with hM;subst hM;rfl
   ·cases hs
   ·cases hs
  ·cases hs
  ·cases hs
 ·have e1:=cV h
  subst e1;obtain⟨L,hL,rfl⟩:=hx.CE;obtain⟨M,hM,rfl⟩:=hy.CE;rw [hL]at hM;injection hM with hM;subst hM;rfl
 ·simp only [bT]at h
  have e1:=cV h.1.1;have e2:=cV h.1.2;have e3:=cV h.2.1;have e4:=cV h.2.2;subst e1 e2 e3 e4;rcases hx.iG with ⟨L,c1,hL,rfl,⟨hs,_⟩ | ⟨_,_,_,q1,q2⟩⟩ | ⟨⟨_,hs⟩,_⟩
  ·cases hs
  ·rcases hy.iG with ⟨M,c2,hM,rfl,⟨hs,_⟩ | ⟨_,_,_,q3,q4⟩⟩ | ⟨⟨_,hs⟩,_⟩
   ·cases hs
   ·rw [hL]at hM;injection hM with hM;subst hM
    have:c1*L.m=c2*L.m:=by omega
    rw [Nat.eq_of_mul_eq_mul_right q2 this]
   ·cases hs
  ·cases hs
 ·simp only [bT]at h
  have e1:=cV h.1.1;have e2:=cV h.1.2;have e3:=cV h.2;subst e1 e2 e3;cases hx with
  | flat h=>simp [bA]at h
  | wU hs=>cases hy with
   | flat h=>simp [bA]at h
   | wU Pu=>rw [hs,Pu]
 ·have e1:=cV h
  subst e1;rw [hx.aI8,hy.aI8]
 ·simp only [bT]at h
  have e1:=cV h.1;have e2:=cV h.2.1;have e3:=cV h.2.2;subst e1 e2 e3;obtain⟨L,hL,rfl⟩:=hx.aI9;obtain⟨M,hM,rfl⟩:=hy.aI9;rw [hL]at hM;injection hM with hM;subst hM;rfl
 ·have e1:=cV h
  subst e1;obtain⟨L,hL,rfl⟩:=hx.Iy;obtain⟨M,hM,rfl⟩:=hy.Iy;rw [hL]at hM;injection hM with hM;subst hM;rfl
 ·cases h
theorem PH{U:Rn}{f:Value->Value->Bool} (hf:∀{a b x y:Value},f a b=true->VR U a x->VR U b y->x=y):∀{a b x y:List Value},CJ f a b=true->kK U a x->kK U b y->x=y:=by
 intro a;induction a with
 | nil=>
  intro b x y h hx hy;cases b with
  | nil=>rw [hx.iH,hy.iH]
  | cons b l=>cases h
 | cons a l ih=>
  intro b x y h hx hy;cases b with
  | nil=>cases h
  | cons b m=>
   simp only [CJ,bT]at h;obtain⟨a',l',rfl,h1,h2⟩:=hx.bU;obtain⟨b',m',rfl,h3,h4⟩:=hy.bU;rw [hf h.1 h1 h3,ih h.2 h2 h4]
theorem VR.Ri{U:Rn}{f:FuncId}{a c:List Value}{x:Value} (h:VR U (.func (.func f) ⟨a⟩ ⟨c⟩) x):∃a' c',x= .func (.func f) ⟨a'⟩ ⟨c'⟩/\kK U a a'/\kK U c c':=by
 cases h with
 | flat h=>simp [bA]at h
 | @func _ _ a' _ c' ha hc h1 h2=>exact⟨a'.toList,c'.toList,rfl,⟨by simpa using ha,h1⟩,⟨by simpa using hc,h2⟩⟩
theorem Rj{U:Rn}:∀(n:Nat) {a b x y:Value},YK n a b=true->VR U a x->VR U b y->x=y:=by
 intro n;induction n with
 | zero=>intro a b x y h hx hy;exact YM h hx hy
 | succ n ih=>
  intro a b x y h hx hy;unfold YK at h;split at h
  ·rename_i heq;exact absurd heq (by simp)
  ·simp only [bT]at h
   have e1:=cV h.1;subst e1;rename_i m _ _ _ _ _ _ hn;injection hn with hn;subst hn;obtain⟨a1,c1,rfl,h1,h2⟩:=hx.Ri;obtain⟨a2,c2,rfl,h3,h4⟩:=hy.Ri;rw [PH (ih) h.2.1 h1 h3,PH (ih) h.2.2 h2 h4]
  ·exact YM h hx hy
theorem YN{U:Rn}{a b x y:Value} (h:Rh a b=true) (hx:VR U a x) (hy:VR U b y):x=y:=Rj 3 h hx hy
theorem Rk{U:Rn}:∀{a b x y:List Value},Ix a b=true->kK U a x->kK U b y->x=y:=by
 intro a;induction a with
 | nil=>
  intro b x y h hx hy;cases b with
  | nil=>rw [hx.iH,hy.iH]
  | cons b l=>cases h
 | cons a l ih=>
  intro b x y h hx hy;cases b with
  | nil=>cases h
  | cons b m=>
   simp only [Ix,bT]at h;obtain⟨a',l',rfl,h1,h2⟩:=hx.bU;obtain⟨b',m',rfl,h3,h4⟩:=hy.bU;rw [YN h.1 h1 h3,ih h.2 h2 h4]
theorem FK{U:Rn}{a b x y:Value} (h:YL a b=true) (hx:VR U a x) (hy:VR U b y):x=y:=by
 unfold YL at h;split at h
 ·obtain⟨x',rfl,h1⟩:=hx.FC
  obtain⟨y',rfl,h2⟩:=hy.FC;rw [gW.1 (Rk h h1 h2)]
 ·exact YN h hx hy
theorem Ly{U:Rn}:∀{a b x y:List Value},WL a b=true->kK U a x->kK U b y->x=y:=by
 intro a;induction a with
 | nil=>
  intro b x y h hx hy;cases b with
  | nil=>rw [hx.iH,hy.iH]
  | cons b l=>cases h
 | cons a l ih=>
  intro b x y h hx hy;cases b with
  | nil=>cases h
  | cons b m=>
   simp only [WL,bT]at h;obtain⟨a',l',rfl,h1,h2⟩:=hx.bU;obtain⟨b',m',rfl,h3,h4⟩:=hy.bU;rw [FK h.1 h1 h3,ih h.2 h2 h4]
theorem Rl{U:Rn}{a b x y:Value} (h:JY a b=true) (hx:VR U a x) (hy:VR U b y):x=y:=by
 unfold JY at h;split at h
 ·obtain⟨x',rfl,h1⟩:=hx.GY
  obtain⟨y',rfl,h2⟩:=hy.GY;rw [gW.1 (Ly h h1 h2)]
 ·exact FK h hx hy
def neutral (P:Program) (o:Oper):Bool:=oU P o || wZ o
def leaves (ops:Array Oper) (o:Oper) (p:Nat):Bool:=match ops[p]?,o.dst with
 | some q,some d=> !(q.looksAt ops).contains d&&q.dst != some d
 | _,_=>true
def yT (ops:Array Oper) (o:Oper):Bool:=match o.dst with | some d=> !(o.looksAt ops).contains d | none=>true
def iI (ops:Array Oper) (p:Nat):Bool:=match ops[p]? with | some q=>wZ q&&q.dst.isSome | none=>false
def aD4 (P:Program) (ops:Array Oper):Nat->Array Bool->List Nat->Option (List (Nat×List Nat))
 | 0,listed,_=>match Region.ready .any ops listed with | []=>some [] | _=>none
 | f+1,listed,taken=>
  match Region.ready .any ops listed with
  | []=>some []
  | rs=>match rs.find? (fun i=>match ops[i]? with | some o=>neutral P o | none=>false)with
   | some i=>match ops[i]? with
    | some o=>match Region.free .any ops listed i&&yT ops o&&taken.all (leaves ops o)&&(oU P o || iI ops i)with
     | true=>(aD4 P ops f (listed.setIfInBounds i true) (i::taken)).map ((i,[]):: ·)
     | false=>none
    | none=>none
   | none=>match rs with
    | [i]=>match ops[i]? with
     | some o=>match taken.all (leaves ops o)with
      | true=>(aD4 P ops f (listed.setIfInBounds i true) (taken.filter fun p=> !dep ops i p)).map ((i,(taken.filter fun p=> !dep ops i p).filter (iI ops)):: ·)
      | false=>none
     | none=>none
    | _=>none
def DR (ops:Array Oper):Bool:=ops.toList.all fun o=>match o.op with | .select .. | .defer _=>false | _=>true
def uL (E:Env) (ops:Array Oper) (A:aM) (S:St) (l:List Nat) (k:Bool):Bool:=
 fE (β:=Bool) k (fun i _ ih=>match ops[i]? with
  | some o=>match o.dst with
   | some d=>NO A.tmps d fun u=>wS ops o A fun b=>dF b (uQ E o A S fun v _=>match JY v u with | true=>ih | false=>false) (match u with | .tuple ⟨[]⟩=>ih | _=>false)
   | none=>false
  | none=>false) l
section
variable{E:Env}{w0:World}{ops:Array Oper}
theorem PI (h:DR ops=true):Plain ops:=by
 intro j o ho
 have hm:o∈ops.toList:=by
  have:ops.toList[j]? =some o:=by simpa using ho
  exact rB this
 have:=dL.1 h o hm;constructor
 ·intro cs b e;rw [e]at this;cases this
 ·intro c e;rw [e]at this;cases this
theorem tK{o:Oper}{p:Nat} (h:leaves ops o p=true){q:Oper} (hq:ops[p]? =some q):∀d,o.dst=some d->d∉q.looksAt ops/\q.dst≠some d:=by
 intro d hd;unfold leaves at h;rw [hq,hd]at h;simpa using h
theorem LX{o:Oper} (h:yT ops o=true):∀d,o.dst=some d->d∉o.looksAt ops:=by
 intro d hd;unfold yT at h;rw [hd]at h;simpa using h
end
section
variable{E:Env}{w0:World}{ops:Array Oper}
def Kn (P:Program) (ops:Array Oper) (a:Act) (w:World) (p:Nat×Value):Prop:=
 (∃o,ops[p.1]? =some o/\oU P o=true/\∀w,Yl P ops p.1 p.2 a w)\/(∃o d,ops[p.1]? =some o/\wZ o=true/\Yl P ops p.1 p.2 a w/\o.dst=some d/\∀u,a.tmps.toList[d]? =some u->u=p.2)
theorem Kn.yl{P:Program}{a:Act}{w:World}{p:Nat×Value} (h:Kn P ops a w p):Yl P ops p.1 p.2 a w:=by
 rcases h with ⟨o,_,_,h⟩ | ⟨o,d,_,_,h,_⟩
 ·exact h w
 ·exact h
theorem qX{a:Act}{dst:Option Tmp}{v:Value}{d:Tmp} (h:dst≠some d):(a.put dst v).tmps.toList[d]? =a.tmps.toList[d]? :=by
 cases dst with
 | none=>rfl
 | some e=>
  have uR:e≠d:=fun q=>h (by rw [q]);show(a.tmps.setIfInBounds e v).toList[d]? =_;rw [PU,PV uR]
theorem zT{a:Act}{v:Value}{d:Tmp}:∀u,(a.put (some d) v).tmps.toList[d]? =some u->u=v:=by
 intro u hu;have hu:(a.tmps.setIfInBounds d v).toList[d]? =some u:=hu;rw [PU,List.getElem?_set_self']at hu;cases hx:a.tmps.toList[d]? with
 | none=>rw [hx]at hu;cases hu
 | some y=>rw [hx]at hu;simp at hu;exact hu.symm
theorem QS{U:Rn}{A:aM}{a:Act}{S:St}{w:World} (hs:SR E.P w0 U A a S w):∀{l:List Nat} {k:Bool},uL E ops A S l k=true->(∀i∈l,iI ops i=true)->
 k=true/\∀i∈l,∃o d u',ops[i]? =some o/\o.dst=some d/\a.tmps.toList[d]? =some u'/\Yl E.P ops i u' a w:=by
 intro l;induction l with
 | nil=>intro k hk _;exact⟨hk,by simp⟩
 | cons i l ih=>
  intro k hk hl;unfold uL at hk;rw [aO]at hk;split at hk
  ·rename_i o ho
   split at hk
   ·rename_i d hd
    obtain⟨u,hu,hk⟩:=AD hk;obtain⟨u',hu',hr⟩:=hs.act.tmps.get hu;have hk:=IS hs.act hk
    have Ro:wZ o=true:=by
     have:=hl i (.head _);unfold iI at this;rw [ho]at this;simp only [bT]at this;exact this.1
    have tF:uL E ops A S l k=true/\Yl E.P ops i u' a w:=by
     cases hw:Region.wanted o (yielded ops a.tmps)with
     | true=>
      rw [hw]at hk;have hk:uQ E o A S (fun v _=>match JY v u with | true=>uL E ops A S l k | false=>false)=true:=hk;obtain⟨v,v',hk,hv,dD⟩:=SQ hs.rel hs.act Ro hk;split at hk
      ·rename_i aDQ
       have:=Rl aDQ hv hr;subst this;exact⟨hk,o,ho,.inl ⟨hw,dD⟩⟩
      ·cases hk
     | false=>
      rw [hw]at hk;have hk:(match(generalizing:=false) u with | .tuple ⟨[]⟩=>uL E ops A S l k | _=>false)=true:=hk;split at hk
      ·obtain⟨x,rfl,hx⟩:=hr.GY
       have:x= #[]:=gW.1 (hx.iH);subst this;exact⟨hk,o,ho,.inr ⟨hw,rfl⟩⟩
      ·cases hk
    obtain⟨h1,h2⟩:=ih tF.1 fun j hj=>hl j (.tail _ hj);refine⟨h1,fun j hj=>?_⟩;cases hj with
    | head=>exact⟨o,d,u',ho,hd,hu',tF.2⟩
    | tail _ hj=>exact h2 j hj
   ·cases hk
  ·cases hk
end
def isTrue:Value->Bool
 | .bool b=>b
 | _=>false
def St.none (n:Nat):St:=⟨.leaf,n⟩
def Rn.globals (n:Nat):Rn:=fun i=>if i<n then some ⟨i,0,0,0⟩else none
theorem Rel.none{P:Program}{w:World} (hsz:P.globals.size<=w.heap.size):Rel P w (Rn.globals P.globals.size) (St.none P.globals.size) w:=by
 have CH:∀i,(St.none P.globals.size).obj i=Option.none:=fun i=>rfl
 have hr:∀i L,Rn.globals P.globals.size i=some L->i<P.globals.size/\L=⟨i,0,0,0⟩:=by
  intro i L h;unfold Rn.globals at h;split at h
  ·rename_i hi;injection h with h;exact⟨hi,h.symm⟩
  ·cases h
 have hf:∀{i o},(St.none P.globals.size).obj i=some o->False:=fun h=>nomatch (CH _).symm.trans h;refine⟨fun g hg=>⟨⟨g,0,0,0⟩,if_pos hg,rfl,rfl⟩,fun i o h=>(hf h).elim,fun i hi=>?_,fun i o h=>(hf h).elim,fun i L h=>?_,fun i j a b L M _ h=>(hf h).elim,fun j vs e olds h=>(hf h).elim,?_⟩
 ·have:P.globals.size<=i:=hi
  unfold Rn.globals;rw [if_neg (by omega)]
 ·obtain⟨h1,rfl⟩:=hr i L h
  show i<_;omega
 ·exact⟨rfl,rfl,rfl,bN _,fun _ _=>rfl⟩
structure EvW where
 f:aM->(Value->Bool)->Bool
def vC (x:Operand):EvW:=
 match x with
 | .tmp t=>⟨fun A k=>NO A.tmps t k⟩
 | .const v=>match iZ v with | true=>⟨fun _ k=>k v⟩ | false=>⟨fun _ _=>false⟩
 | .global g=>⟨fun A k=>match Nat.blt g A.g with | true=>k (.pointer (some ⟨g,0,none⟩)) | false=>false⟩
 | .func f=>⟨fun _ k=>k (.func (.func f) #[] #[])⟩
theorem kB (A:aM) (x:Operand) (k:Value->Bool):(vC x).f A k=rQ A x k:=by
 cases x with
 | const v=>unfold vC rQ;simp only;cases iZ v<;>rfl
 | _=>rfl
structure aMn where
 f:aM->(List Value->Bool)->Bool
def Xw (xs:List Operand):aMn:=fE (β:=aMn) ⟨fun _ k=>k []⟩ (fun x _ ih=>⟨fun A k=>(vC x).f A fun v=>ih.f A fun vs=>k (v::vs)⟩) xs
theorem ST (A:aM):∀(xs:List Operand) (k:List Value->Bool),(Xw xs).f A k=LD A xs k:=by
 intro xs;induction xs with
 | nil=>intro k;rfl
 | cons x xs ih=>
  intro k;show(vC x).f A (fun v=>(Xw xs).f A fun vs=>k (v::vs))=rQ A x fun v=>LD A xs fun vs=>k (v::vs);rw [kB]
  congr 1
  funext v
  exact ih _
structure aNZ where
 f:aM->(Option Value->Bool)->Bool
def aG2 (x:Option Operand):aNZ:=match x with | none=>⟨fun _ k=>k none⟩ | some x=>⟨fun A k=>(vC x).f A fun v=>k (some v)⟩
theorem aG3 (A:aM) (x:Option Operand) (k:Option Value->Bool):(aG2 x).f A k=QI A x k:=by
 cases x with
 | none=>rfl
 | some x=>exact kB A x _
structure IbW where
 f:IntKind->Int->Int->(Value->Bool)->Bool
def aA0 (op:BinOp):IbW:=
 match op with
 | .add=>⟨fun k x y K=>GH k (Int.add x y) K⟩
 | .sub=>⟨fun k x y K=>GH k (Int.sub x y) K⟩
 | .mul=>⟨fun k x y K=>GH k (Int.mul x y) K⟩
 | .eql=>⟨fun _ x y K=>mX (Au x y) K⟩
 | .neq=>⟨fun _ x y K=>mX (!Au x y) K⟩
 | .lss=>⟨fun _ x y K=>mX (Hf x y) K⟩
 | .leq=>⟨fun _ x y K=>mX (!Hf y x) K⟩
 | .gtr=>⟨fun _ x y K=>mX (Hf y x) K⟩
 | .geq=>⟨fun _ x y K=>mX (!Hf x y) K⟩
 | op=>⟨fun k x y K=>IL op k x y K⟩
theorem Xx (op:BinOp) (k:IntKind) (x y:Int) (K:Value->Bool):(aA0 op).f k x y K=IL op k x y K:=by cases op<;>rfl
structure BnW where
 f:TypeId->Value->Value->(Value->Bool)->Bool
def aG4 (P:Program) (op:BinOp):BnW:=
 match op with
 | .shl=>⟨fun t a b K=>QH P .shl t a b K⟩
 | .shr=>⟨fun t a b K=>QH P .shr t a b K⟩
 | op=>⟨fun t a b K=>match a,b with
  | .int k x,.int k' y=>match yM k k' with | true=>(aA0 op).f k x y K | false=>false
  | a,b=>QH P op t a b K⟩
theorem aA1 (P:Program) (op:BinOp) (t:TypeId) (a b:Value) (K:Value->Bool):(aG4 P op).f t a b K=QH P op t a b K:=by
 cases op<;>first
  | rfl
  | (simp only [aG4]
     split
     ·rw [Xx];rfl
     ·rfl)
structure BiW where
 f:List TypeId->List Value->St->VK->Bool
def Rp (P:Program) (b:Builtin):BiW:=
 match b with
 | .append=>⟨fun ts args S K=>match args with | [s,x]=>oF P ts s x S K | _=>false⟩
 | .copy=>⟨fun ts args S K=>match args with | [d,s]=>Il P ts d s S K | _=>false⟩
 | b=>⟨fun ts args S K=>mY P b ts args S K⟩
theorem Rq (P:Program) (b:Builtin) (ts:List TypeId) (args:List Value) (S:St) (K:VK):(Rp P b).f ts args S K=mY P b ts args S K:=by
 cases b<;>first
  | rfl
  | (match args with
     | []=>rfl
     | [_]=>rfl
     | [_,_]=>rfl
     | _::_::_::_=>rfl)
structure OpW where
 f:Env->aM->St->VK->Bool
def LY (P:Program) (c:Call):OpW:=
 match c.callee with
 | .builtin b=>⟨fun _ A S K=>(Xw c.args.toList).f A fun args=>(Rp P b).f c.argTypes.toList args S K⟩
 | .value f=>⟨fun E A S K=>(Xw c.args.toList).f A fun args=>(vC f).f A fun f=>match f with
  | .func (.func g) first captured=>wQ first.toList args fun l=>wQ l captured.toList fun l=>E.call g l S K
  | .func (.yield l) first captured=>match first.toList,captured.toList with
   | [],[]=>E.round l args S K
   | _,_=>false
  | _=>false⟩
 | .invoke r m=>⟨fun E A S K=>(Xw c.args.toList).f A fun args=>(vC r).f A fun v=>match v with
  | .iface t x=>match DG P t m with
   | some g=>E.call g (x::args) S K
   | none=>false
  | _=>false⟩
theorem xA (E:Env) (c:Call) (A:aM) (S:St) (K:VK):(LY E.P c).f E A S K=lU E A c S K:=by
 unfold LY lU;cases c.callee with
 | builtin b=>simp only [ST,Rq]<;>rfl
 | value f=>simp only [ST,kB]<;>rfl
 | invoke r m=>simp only [ST,kB]<;>rfl
def Pv (P:Program) (o:Oper):OpW:=
 match o.op with
 | .move x=>⟨fun _ A S K=>(vC x).f A fun v=>K v S⟩
 | .assign x=>⟨fun _ A S K=>(vC x).f A fun v=>K v S⟩
 | .load t a=>⟨fun _ A S K=>(vC a).f A fun a=>GQ P t a S K⟩
 | .store t a x=>⟨fun _ A S K=>(vC a).f A fun a=>(vC x).f A fun x=>QG P t a x S fun S=>K undef S⟩
 | .pick c a b=>⟨fun _ A S K=>(vC c).f A fun c=>(vC a).f A fun a=>(vC b).f A fun b=>match c with
  | .bool true=>K a S
  | .bool false=>K b S
  | _=>false⟩
 | .box t x=>⟨fun _ A S K=>(vC x).f A fun v=>Qf t v S K⟩
 | .nilCheck x=>⟨fun _ A S K=>(vC x).f A fun v=>match v with
  | .pointer (some a)=>K (.pointer (some a)) S
  | .func (.func f) a b=>K (.func (.func f) a b) S
  | .func (.yield f) a b=>K (.func (.yield f) a b) S
  | .func (.method s) ⟨[.iface t w]⟩ ⟨[]⟩=>match DG P t s with
   | some _=>K (.func (.method s) ⟨[.iface t w]⟩ ⟨[]⟩) S
   | none=>false
  | .iface t w=>K (.iface t w) S
  | _=>false⟩
 | .binOp op t x y _=>⟨fun _ A S K=>(vC x).f A fun a=>(vC y).f A fun b=>(aG4 P op).f t a b fun v=>K v S⟩
 | .unOp op _ x=>⟨fun _ A S K=>(vC x).f A fun a=>unK op a fun v=>K v S⟩
 | .convert s d x=>⟨fun _ A S K=>(vC x).f A fun a=>XX P s d a S K⟩
 | .slice t x lo hi mx=>match mx,hi with
  | some _,none=>⟨fun _ _ _ _=>false⟩
  | mx,hi=>⟨fun _ A S K=>(vC x).f A fun x=>(aG2 lo).f A fun lo=>(aG2 hi).f A fun hi=>(aG2 mx).f A fun mx=>rE P t x lo hi mx S fun v=>K v S⟩
 | .fieldAddr s x f=>⟨fun _ A S K=>(vC x).f A fun x=>yN P s x f fun v=>K v S⟩
 | .field t x f=>⟨fun _ A S K=>(vC x).f A fun x=>LE P t x f fun v=>K v S⟩
 | .indexAddr t x ix=>⟨fun _ A S K=>(vC x).f A fun x=>(vC ix).f A fun ix=>rF P t x ix fun v=>K v S⟩
 | .index t x ix=>⟨fun _ A S K=>(vC x).f A fun x=>(vC ix).f A fun ix=>WC P t x ix fun v=>K v S⟩
 | .extract t i=>⟨fun _ A S K=>(vC t).f A fun v=>match v with
  | .tuple vs=>OK vs.toList i fun v=>K v S
  | _=>false⟩
 | .call c=>LY P c
 | _=>⟨fun E A S K=>uQ E o A S K⟩
theorem yU (E:Env) (o:Oper) (A:aM) (S:St) (K:VK):(Pv E.P o).f E A S K=uQ E o A S K:=by
 unfold Pv;split
 all_goals (rename_i h)
 all_goals first
  | rfl
  | (unfold uQ;rw [h];simp only [kB,aA1,xA]<;>rfl)
  | (unfold uQ;rw [h];simp only;split<;>first | rfl | (simp only [kB,aG3]<;>rfl))
abbrev KS:=aM->St->Bool
structure Dr where
 f:Env->aM->St->KS->Bool
def aJR (d:Option Tmp) (v:Value) (A:aM) (k:aM->Bool):Bool:=
 match d with
 | some d=>qW v A.tmps d fun ts=>k ⟨ts,A.marks,A.g⟩
 | none=>k A
def aA2 (P:Program) (o:Oper):Dr:=
 match o.dst with
 | some d=>⟨fun E A S k=>(Pv P o).f E A S fun v S=>qW v A.tmps d fun ts=>k ⟨ts,A.marks,A.g⟩ S⟩
 | none=>⟨fun E A S k=>(Pv P o).f E A S fun _ S=>k A S⟩
def aD5 (o:Oper):Dr:=
 match o.dst with
 | some d=>⟨fun _ A S k=>qW undef A.tmps d fun ts=>k ⟨ts,A.marks,A.g⟩ S⟩
 | none=>⟨fun _ A S k=>k A S⟩
structure GdW where
 f:aM->(Bool->Bool)->Bool
def Rr (ops:Array Oper) (o:Oper):GdW:=
 match o.guard with
 | none=>⟨fun _ k=>k true⟩
 | some (j,want)=>match ops[j]? with
  | some o'=>match o'.dst with
   | some d=>⟨fun A k=>NO A.tmps d fun v=>match v with
    | .bool b=>match b,want with | true,true | false,false=>k true | _,_=>k false
    | _=>k false⟩
   | none=>⟨fun _ k=>k false⟩
  | none=>⟨fun _ k=>k false⟩
def doW (P:Program) (ops:Array Oper) (o:Oper):Dr:=
 match o.guard with
 | none=>aA2 P o
 | some _=>⟨fun E A S k=>(Rr ops o).f A fun b=>dF b ((aA2 P o).f E A S k) ((aD5 o).f E A S k)⟩
theorem Rs (E:Env) (o:Oper) (A:aM) (S:St) (k:KS):(aA2 E.P o).f E A S k=uQ E o A S fun v S=>lE A o.dst v fun A=>k A S:=by
 unfold aA2 lE;cases o.dst<;>simp only [yU]
theorem aD6 (E:Env) (o:Oper) (A:aM) (S:St) (k:KS):(aD5 o).f E A S k=lE A o.dst undef fun A=>k A S:=by
 unfold aD5 lE;cases o.dst<;>rfl
theorem Rt (ops:Array Oper) (o:Oper) (A:aM) (k:Bool->Bool):(Rr ops o).f A k=wS ops o A k:=by
 unfold Rr wS;cases o.guard with
 | none=>rfl
 | some jw=>
  obtain⟨j,want⟩:=jw;simp only;cases ops[j]? with
  | none=>rfl
  | some o'=>
   simp only;cases o'.dst<;>rfl
theorem Xy (E:Env) (ops:Array Oper) (o:Oper) (A:aM) (S:St) (k:KS):(doW E.P ops o).f E A S k=QJ E ops o A S k:=by
 unfold doW QJ;cases hg:o.guard with
 | none=>
  simp only [Rs];unfold wS;rw [hg];rfl
 | some _=>simp only [Rs,aD6,Rt]
def aJS (P:Program) (ops:Array Oper) (l:List Oper):Dr:=
 fE (β:=Dr) ⟨fun _ A S k=>k A S⟩ (fun o _ ih=>⟨fun E A S k=>(doW P ops o).f E A S fun A S=>ih.f E A S k⟩) l
theorem aG5 (E:Env) (ops:Array Oper):∀(l:List Oper) (A:aM) (S:St) (k:KS),(aJS E.P ops l).f E A S k=OL E ops l A S k:=by
 intro l;induction l with
 | nil=>intro A S k;rfl
 | cons o l ih=>
  intro A S k;show(doW E.P ops o).f E A S (fun A S=>(aJS E.P ops l).f E A S k)=QJ E ops o A S fun A S=>OL E ops l A S k;rw [Xy]
  congr 1
  funext A S
  exact ih A S k
structure ChW where
 f:Env->aM->St->Bool->Bool
def Xz (P:Program) (ops:Array Oper) (l:List Nat):ChW:=
 fE (β:=ChW) ⟨fun _ _ _ k=>k⟩ (fun i _ ih=>match ops[i]? with
  | some o=>match o.dst with
   | some d=>⟨fun E A S k=>NO A.tmps d fun u=>(Rr ops o).f A fun b=>dF b ((Pv P o).f E A S fun v _=>match JY v u with | true=>ih.f E A S k | false=>false) (match u with | .tuple ⟨[]⟩=>ih.f E A S k | _=>false)⟩
   | none=>⟨fun _ _ _ _=>false⟩
  | none=>⟨fun _ _ _ _=>false⟩) l
theorem aCc (P:Program) (ops:Array Oper) (i:Nat) (l:List Nat):Xz P ops (i::l)=match ops[i]? with
 | some o=>match o.dst with
  | some d=>⟨fun E A S k=>NO A.tmps d fun u=>(Rr ops o).f A fun b=>dF b ((Pv P o).f E A S fun v _=>match JY v u with | true=>(Xz P ops l).f E A S k | false=>false) (match u with | .tuple ⟨[]⟩=>(Xz P ops l).f E A S k | _=>false)⟩
  | none=>⟨fun _ _ _ _=>false⟩
 | none=>⟨fun _ _ _ _=>false⟩:=rfl
theorem WM (E:Env) (ops:Array Oper) (A:aM) (S:St) (i:Nat) (l:List Nat) (k:Bool):uL E ops A S (i::l) k=match ops[i]? with
 | some o=>match o.dst with
  | some d=>NO A.tmps d fun u=>wS ops o A fun b=>dF b (uQ E o A S fun v _=>match JY v u with | true=>uL E ops A S l k | false=>false) (match u with | .tuple ⟨[]⟩=>uL E ops A S l k | _=>false)
  | none=>false
 | none=>false:=rfl
theorem aA3 (E:Env) (ops:Array Oper) (A:aM) (S:St) (k:Bool):∀(l:List Nat),(Xz E.P ops l).f E A S k=uL E ops A S l k:=by
 intro l;induction l with
 | nil=>rfl
 | cons i l ih=>
  rw [aCc,WM];cases ops[i]? with
  | none=>rfl
  | some o=>
   simp only;cases o.dst with
   | none=>rfl
   | some d=>simp only [yU,Rt,ih]<;>rfl
structure CdW where
 f:Env->Option Nat->aM->St->QK->Bool
structure FnW where
 f:Env->List Value->St->VK->Bool
section
variable{P:Program}{w0:World}{U:Rn}{S:St}{w:World}
theorem Rel.Iz (h:Rel P w0 U S w) (o:gV) (L:Loc) (hlt:L.b<w.heap.size) (BT:∀i M,U i=some M->M.b≠L.b)
 (ho:∀U':Rn,Ext U U'->U' S.n=some L->yQ P w0 U' w S.n o) (CH:o.olds=[]):
 Rel P w0 (U.put S.n L) (S.new o) w:=by
 have FG:=h.Pt S.n (bN _);have he:Ext U (U.put S.n L):=Rn.FH FG
 have oT:∀j M,U.put S.n L j=some M->(j=S.n/\M=L)\/(j≠S.n/\U j=some M):=fun j M hj=>by
  unfold Rn.put at hj;by_cases e:j=S.n
  ·rw [if_pos e]at hj;injection hj with hj;exact .inl ⟨e,hj.symm⟩
  ·rw [if_neg e]at hj;exact .inr ⟨e,hj⟩
 have oL:∀j x,(S.new o).obj j=some x->(j=S.n/\x=o)\/(j≠S.n/\S.obj j=some x):=fun j x hx=>by
  rw [IQ]at hx;by_cases e:j=S.n
  ·rw [if_pos e]at hx;injection hx with hx;exact .inl ⟨e,hx.symm⟩
  ·rw [if_neg e]at hx;exact .inr ⟨e,hx⟩
 refine⟨fun g hg=>let⟨M,h1,h2⟩:=h.ZZ g hg;⟨M,he _ _ h1,h2⟩,fun j x hx=>?_,fun j hj=>?_,fun j x hx=>?_,fun j M hj=>?_,fun i j a b M N KE ha hb hda hdb hM hN ZY=>?_,fun j vs e olds hj i hi=>?_,h.base⟩
 ·rcases oL j x hx with ⟨e,ex⟩ | ⟨e,hx⟩
  ·subst e ex;exact ho _ he (Rn.jN _ _ _)
  ·exact(h.DK j x hx).frame he fun M hM=>rfl
 ·have YH:S.n+1<=j:=hj
  unfold Rn.put;rw [if_neg (by omega)];exact h.Pt j (by omega)
 ·rcases oL j x hx with ⟨e,_⟩ | ⟨_,hx⟩
  ·subst e;exact vI _
  ·exact nT (h.lt j x hx)
 ·rcases oT j M hj with ⟨_,e⟩ | ⟨_,hM⟩
  ·subst e;exact hlt
  ·exact h.loc j M hM
 ·rcases oT i M hM with ⟨ei,eM⟩ | ⟨ei,YG⟩<;>rcases oT j N hN with ⟨ej,eN⟩ | ⟨ej,hN'⟩
  ·omega
  ·rw [eM]at ZY;exact absurd ZY.symm (BT j N hN')
  ·rw [eN]at ZY;exact absurd ZY (BT i M YG)
  ·rcases oL i a ha with ⟨e,_⟩ | ⟨_,ha'⟩
   ·exact absurd e ei
   ·rcases oL j b hb with ⟨e,_⟩ | ⟨_,PC⟩
    ·exact absurd e ej
    ·exact h.sep i j a b M N KE ha' PC hda hdb YG hN' ZY
 ·rcases oL j _ hj with ⟨e1,e2⟩ | ⟨e1,YH⟩
  ·subst e2;rw [show olds=[]from CH]at hi;cases hi
  ·obtain⟨h1,h2⟩:=h.old j vs e olds YH i hi
   refine⟨nT h1,fun x hx=>?_⟩;rcases oL i x hx with ⟨e3,_⟩ | ⟨e3,YE⟩
   ·omega
   ·rcases h2 x YE with h3 | ⟨ws,e',h3,h4⟩
    ·exact .inl h3
    ·refine .inr ⟨ws,e',h3,fun L1 M Hb hM hb=>?_⟩
     rcases oT _ _ Hb with ⟨e4,_⟩ | ⟨_,aD3⟩
     ·exact absurd e4 e1
     ·rcases oT _ _ hM with ⟨e5,_⟩ | ⟨_,YG⟩
      ·exact absurd e5 e3
      ·exact h4 L1 M aD3 YG hb
theorem sQ.Iz{U0:Rn}{wa:World} (h:sQ U0 wa U w) (hn:U S.n=none){L:Loc} (hL:wa.heap.size<=L.b):sQ U0 wa (U.put S.n L) w:=by
 refine⟨h.ext.trans (Rn.FH hn),h.fr,fun i M hi=>?_⟩;unfold Rn.put at hi;by_cases e:i=S.n
 ·rw [if_pos e]at hi;injection hi with hi;subst hi;exact .inr (.inl hL)
 ·rw [if_neg e]at hi;exact h.nw i M hi
structure Mk (P:Program) (w0:World) (U:Rn) (S:St) (s:Sem Go.Next) (v:Value) (o:gV) (ob:Obj) (mk:Nat->Value):Prop where
 run:∀w,s.run P w= .ok (.value (mk w.heap.size)) (w.alloc ob)
 olds:o.olds=[]
 val:∀(U':Rn) (b:Nat),Ext U U'->(∃L,U' S.n=some L/\L.b=b/\L.s=0)->VR U' v (mk b)
 obj:∀(b:Nat),w0.heap.size<=b->∃L:Loc,L.b=b/\L.s=0/\∀(U':Rn) (w:World),Ext U U'->U' S.n=some L->w.heap[b]? =some ob->yQ P w0 U' w S.n o
theorem Mk.cells{s:Sem Go.Next}{cs cs':List Value} (vL:kK U cs cs') (t:TypeId){v:Value}{mk:Nat->Value} (hr:∀w,s.run P w= .ok (.value (mk w.heap.size)) (w.alloc (.cells ⟨cs'⟩ t)))
 (hv:∀(U':Rn) (b:Nat),Ext U U'->(∃L,U' S.n=some L/\L.b=b/\L.s=0)->VR U' v (mk b)):Mk P w0 U S s v (.cells cs t .exact) (.cells ⟨cs'⟩ t) mk:=by
 refine⟨hr,rfl,hv,fun b hb=>⟨⟨b,0,cs'.length,0⟩,rfl,rfl,fun U' w he hU' hw=>⟨_,⟨cs'⟩,t,(0,0),hU',hw,fun j v hj=>?_,?_⟩⟩⟩
 ·obtain⟨v',CC,hr⟩:=vL.get hj
  exact⟨v',by simpa using CC,hr.mono he⟩
 ·exact⟨hb,rfl,vL.1.symm,fun x _ hx=>by simp at hx,rfl⟩
end
section
variable{P:Program}{w0:World}{U:Rn}{S:St}{w:World}
def CL (o:Oper):Bool:=match o.op with | .buildSlice .. | .box .. | .alloc _ | .makeSlice .. | .makeMap _ none=>true | _=>false
def LZ (P:Program) (w0:World) (U:Rn) (S:St) (K:VK) (s:Sem Go.Next):Prop:=∃v o ob mk,K v (S.new o)=true/\Mk P w0 U S s v o ob mk
theorem LZ.ptr{s:Sem Value}{K:VK}{cs cs':List Value}{t:TypeId} (vL:kK U cs cs') (hk:sP S (.cells cs t .exact) (fun i S=>K (.pointer (some ⟨i,0,none⟩)) S)=true)
 (hr:∀w,s.run P w= .ok (.pointer (some ⟨w.heap.size,0,none⟩)) (w.alloc (.cells ⟨cs'⟩ t))):LZ P w0 U S K (do pure (.value (<-s))):=by
 rw [gG]at hk;refine⟨_,_,_,fun b=> .pointer (some ⟨b,0,none⟩),hk,Mk.cells vL t (fun w=>by rw [bY,hr];rfl) fun U' b _ ⟨L,hL,hb,hs⟩=> .aJz hL hb hs⟩
theorem LZ.row{s:Sem Value}{K:VK}{cs cs':List Value}{t:TypeId}{n c:Nat} (vL:kK U cs cs') (hk:sP S (.cells cs t .exact) (fun i S=>K (.slice (some ⟨i,0,none⟩) n c) S)=true)
 (hr:∀w,s.run P w= .ok (.slice (some ⟨w.heap.size,0,none⟩) n c) (w.alloc (.cells ⟨cs'⟩ t))):LZ P w0 U S K (do pure (.value (<-s))):=by
 rw [gG]at hk;refine⟨_,_,_,fun b=> .slice (some ⟨b,0,none⟩) n c,hk,Mk.cells vL t (fun w=>by rw [bY,hr];rfl) fun U' b _ ⟨L,hL,hb,hs⟩=> .Cu hL hb hs n c⟩
theorem LZ.lost{s:Sem Value}{K:VK}{ob:Obj}{n c:Nat} (hk:sP S .dead (fun i S=>K (.slice (some ⟨i,0,none⟩) n c) S)=true)
 (hr:∀w,s.run P w= .ok (.slice (some ⟨w.heap.size,0,none⟩) n c) (w.alloc ob)):LZ P w0 U S K (do pure (.value (<-s))):=by
 rw [gG]at hk;refine⟨_,_,_,fun b=> .slice (some ⟨b,0,none⟩) n c,hk,fun w=>by rw [bY,hr];rfl,rfl,fun U' b _ ⟨L,hL,hb,hs⟩=> .Cu hL hb hs n c,fun b _=>⟨⟨b,0,0,0⟩,rfl,rfl,fun _ _ _ _ _=>trivial⟩⟩
end
section
variable{P:Program}{w0:World}{U:Rn}{S:St}{w:World}
theorem aG6{t:TypeId}{x x':Value}{K:VK} (hk:Qf t x S K=true) (hx:VR U x x'):LZ P w0 U S K (do pure (.value (<-Instr.box t x'))):=by
 unfold Qf at hk;obtain⟨cs,hk,_,vL,_⟩:=zO hk hx;exact LZ.ptr vL hk fun w=>by simp [Instr.box,newVar,newRow]
theorem aCd{t:TypeId}{K:VK} (hk:LF P t S K=true):LZ P w0 U S K (do pure (.value (<-Instr.alloc t true (.tuple #[])))):=by
 unfold LF at hk;split at hk
 ·rename_i zero hz
  split at hk
  ·rename_i YB
   rw [aAV]at hk;have Im:kK U zero zero:= .flat (by rw [jJ]at YB;exact dL.1 YB);refine LZ.ptr Im hk fun w=>?_;obtain⟨zv,YC,Av⟩:=yP hz w;have ez:zv.cells=⟨zero⟩:=gW.1 Av;simp [Instr.alloc,YC,newVar,newRow,ez]
  ·cases hk
 ·cases hk
theorem Hn{t:TypeId}{l l' c c':Value}{K:VK} (hk:sZ P t l c S K=true) (hl:VR U l l') (hc:VR U c c'):LZ P w0 U S K (do pure (.value (<-Instr.makeSlice t l' c'))):=by
 unfold sZ at hk;split at hk
 ·rename_i k1 l k2 c
  rw [hl.of_flat rfl,hc.of_flat rfl];split at hk
  ·rename_i elem he
   have hu:=fS he;split at hk
   ·rename_i info zero hi hz
    split at hk
    ·rename_i q h1 h2 h3 h4 h5
     have h1:=bE h1;have h2:=bE h2;have h3:=bE h3;have h4:=cV h4;split at hk
     ·rename_i YB
      obtain⟨zv,hzi,Av⟩:=Cv hz hi;have uR:zero≠[]:=by intro e;rw [e]at h4;simp at h4;omega
      have WG:=DJ zero zv.cells Av c uR
      have h2':(info.bytes:Int)*(c:Int)<=1099511627776:=by
       have:((info.bytes*c:Nat):Int)<=1099511627776:=by omega
       rwa [Int.natCast_mul]at this
      have hm:madeCells zv.cells (c*info.size)=⟨(List.replicate c zero).flatten⟩:=by rw [<-WG,h4];rfl
      have hr:∀w,(Instr.makeSlice t (.int k1 (.ofNat l)) (.int k2 (.ofNat c))).run P w= .ok (.slice (some ⟨w.heap.size,0,none⟩) l c) (w.alloc (.cells ⟨(List.replicate c zero).flatten⟩ elem)):=fun w=>by
       have hr:=run_make (P:=P) w t elem info zv hu hi hzi k1 k2 l c (by omega) (by omega) (by omega) (by omega);simp only [Int.toNat_natCast]at hr;rw [hm]at hr;exact hr
      split at hk
      ·rw [zP]at hk
       have Im:kK U zero zero:= .flat (by rw [jJ]at YB;exact dL.1 YB);exact LZ.row (Im.flatten c) hk hr
      ·exact LZ.lost hk hr
     ·cases hk
    ·cases hk
   ·cases hk
  ·cases hk
 ·cases hk
theorem Ds (h:Rel P w0 U S w){A:aM}{a:Act} (hA:vN P U A a){t:TypeId}{len:Nat}{parts:Array (Nat×Operand)}{K:VK} (hk:vV P A t len parts.toList S K=true):
 LZ P w0 U S K (do pure (.value (<-Instr.buildSlice t len (parts.map fun p=>(p.1,a.eval p.2))))):=by
 unfold vV at hk;split at hk
 ·rename_i elem he
  have hu:=fS he;split at hk
  ·rename_i size zero hsz hz
   split at hk
   ·rename_i h1 h2
    have h1:=bE h1;have h2:=cV h2;split at hk
    ·rename_i YB
     have Im:kK U zero zero:= .flat (by rw [jJ]at YB;exact dL.1 YB);rw [zP]at hk;obtain⟨ps,hk,YA⟩:=CD h hA hk;obtain⟨out,Hg,g1,g2,g3,_⟩:=FD (place':=fun i=>some (i*(size+1),size+1)) (cells':=⟨(List.replicate len zero).flatten⟩) (by intro i q hq;exact hq) hk YA (Im.flatten len);refine LZ.row g3 g1 fun w=>?_;obtain⟨zv,YC,Av⟩:=yP hz w;have uR:zero≠[]:=by intro e;rw [e]at h2;simp at h2
     have e2:(parts.map fun p=>(p.1,a.eval p.2)).toList=parts.toList.map fun p=>(p.1,a.eval p.2):=by simp
     have hc:¬len*(size+1)>2 ^ 24:=by omega
     by_cases h0:len*(size+1)=0
     ·have hl0:len=0:=by
       rcases Nat.mul_eq_zero.1 h0 with h0 | h0
       ·exact h0
       ·omega
      subst hl0;have e3:(⟨(List.replicate 0 zero).flatten⟩:Array Value)= #[]:=by simp
      rw [e3]at g2;have e4:∀f:Nat->Value,(Array.range 0).map f= #[]:=fun f=>by simp
      simp only [Instr.buildSlice,bY,run_underlying hu,dK,gD hsz,GG,e4,e2,g2,newRow];rfl
     ·have WG:=DJ zero zv.cells Av len uR
      rw [h2]at WG;simp only [Instr.buildSlice,bY,run_underlying hu,dK,gD hsz,if_neg hc,if_neg h0,YC,iY,WG,e2,g2,newRow];rfl
    ·cases hk
   ·cases hk
  ·cases hk
 ·cases hk
theorem Ru{t:TypeId}{K:VK} (hk:sP S (.map [] 0) (fun i S=>K (.map (some i)) S)=true):LZ P w0 U S K (do pure (.value (<-Instr.makeMap t none))):=by
 rw [gG]at hk;refine⟨_,.map [] 0,.map #[] 0,fun b=> .map (some b),hk,⟨fun w=>by simp [Instr.makeMap,newObj];rfl,rfl,fun U' b _ ⟨L,hL,hb,_⟩=>hb▸ .map hL,fun b hb=>⟨⟨b,0,0,0⟩,rfl,rfl,fun U' w he hU' hw=>⟨_,#[],hU',hb,hw,⟨rfl,by simp⟩⟩⟩⟩⟩
end
section
variable{E:Env}{w0:World}{U:Rn}{S:St}{w:World}
theorem QT (h:Rel E.P w0 U S w){A:aM}{a:Act} (hA:vN E.P U A a){o:Oper} (hp:CL o=true){K:VK} (hk:uQ E o A S K=true):LZ E.P w0 U S K (execOp a.eval o):=by
 unfold uQ at hk;unfold execOp;unfold CL at hp;split at hk<;>first | (cases hk;done) | skip
 all_goals (rename_i KG;rw [KG]at hp;first | (cases hp;done) | skip)
 all_goals (simp only [KG])
 ·exact aCd hk
 ·obtain⟨x,hk,hx⟩:=aK h hA hk
  exact aG6 hk hx
 ·exact Ds h hA hk
 ·exact Ru hk
 ·obtain⟨x,hk,hx⟩:=aK h hA hk
  obtain⟨y,hk,hy⟩:=aK h hA hk;exact Hn hk hx hy
end
namespace Tr
variable{α:Type}
def del:Tr α->Nat->Tr α
 | leaf,_=>leaf
 | node v l r,n=>if n=0 then node none l r else if n%2=1 then node v (l.del (n / 2)) r else node v l (r.del (n / 2-1))
end Tr
def aD7{α:Type} (t:Tr α) (n:Nat) (k:Tr α->Bool):Bool:=
 aL9 (β:=Nat->(Tr α->Bool)->Bool) (fun _ k=>k .leaf) (fun v l r dl dr n k=>nU n (k (.node none l r)) fun p=>nU (Nat.mod p 2) (dl (Nat.div p 2) fun c=>k (.node v c r)) fun _=>dr (Nat.div p 2) fun c=>k (.node v l c)) t n k
theorem aA4{α:Type} (t:Tr α):∀(n:Nat) (k:Tr α->Bool),aD7 t n k=k (t.del n):=by
 induction t with
 | leaf=>intro n k;rfl
 | node v l r il ir=>
  intro n k;cases n with
  | zero=>rfl
  | succ p=>
   show nU (p%2) (aD7 l (p / 2) fun c=>k (.node v c r)) (fun _=>aD7 r (p / 2) fun c=>k (.node v l c))=_;rw [il,ir];have aD8:p+1≠0:=by omega
   simp only [Tr.del,if_neg aD8];rcases Nat.mod_two_eq_zero_or_one p with h | h
   ·rw [h,if_pos (by omega),show(p+1) / 2=p / 2 by omega];rfl
   ·rw [h,if_neg (by omega),show(p+1) / 2-1=p / 2 by omega];rfl
theorem SU{α:Type} (t:Tr α):∀(n m:Nat),(t.del n).get m=if m=n then none else t.get m:=by
 induction t with
 | leaf=>intro n m;show none=_;split<;>rfl
 | node v l r il ir=>
  intro n m;by_cases h0:n=0
  ·subst h0
   by_cases hm:m=0<;>simp [Tr.del,Tr.get,hm]
  ·by_cases h1:n%2=1
   ·simp only [Tr.del,if_neg h0,if_pos h1,Tr.get]
    by_cases hm:m=0
    ·subst hm;simp [dV h0]
    ·by_cases h2:m%2=1
     ·simp only [if_neg hm,if_pos h2,il]
      by_cases e:m=n
      ·simp [e]
      ·rw [if_neg e,if_neg (by omega)]
     ·simp only [if_neg hm,if_neg h2]
      rw [if_neg (by omega)]
   ·simp only [Tr.del,if_neg h0,if_neg h1,Tr.get]
    by_cases hm:m=0
    ·subst hm;simp [dV h0]
    ·by_cases h2:m%2=1
     ·simp only [if_neg hm,if_pos h2]
      rw [if_neg (by omega)]
     ·simp only [if_neg hm,if_neg h2,ir]
      by_cases e:m=n
      ·simp [e]
      ·rw [if_neg e,if_neg (by omega)]
def aD9 (o:Oper):Bool:=match o.op with | .assign _=>true | _=>false
def Du (P:Program) (o:Oper):Bool:=o.guard.isNone&&(o.dst.isSome&&((oU P o&& !aD9 o) || CL o))
def WN (P:Program) (o:Oper):Option Tmp:=match o.op with
 | .convert s d (.tmp t)=>match P.underlying s,P.underlying d with
  | some (.slice e),some .string=>match P.underlying e with
   | some (.int .u8)=>some t
   | _=>none
  | _,_=>none
 | _=>none
def DS (o:Oper):Bool:=match o.op with | .makeSlice .. =>true | _=>false
def eO (P:Program) (ops:Array Oper) (i:Nat):Option Nat:=match ops[i]? with
 | some o=>match WN P o with
  | some t=>match o.guard.isNone&&o.dst.isSome with
   | true=>(List.range ops.size).find? fun j=>match ops[j]? with | some q=>DS q&&(q.guard.isNone&&(q.dst==some t&&dep ops i j)) | none=>false
   | false=>none
  | none=>none
 | none=>none
def BH (P:Program) (ops:Array Oper) (j:Nat):Bool:=(match ops[j]? with | some q=>DS q | none=>false)&&(List.range ops.size).any fun i=>eO P ops i==some j
def kM (P:Program) (ops:Array Oper) (i:Nat):Bool:=match ops[i]? with | some o=>Du P o || (eO P ops i).isSome | none=>false
def FL (ops:Array Oper) (t:Array Bool) (i:Nat):Bool:=match ops[i]? with
 | some o=> !(t.getD i true)&&o.after.toList.all fun e=> !Region.binds .any e || t.getD e.on false
 | none=>false
def DT (P:Program) (ops:Array Oper):List Nat->Array Bool->List Nat->Array Bool×List Nat
 | [],t,l=>(t,l)
 | i::is,t,l=>match kM P ops i&&FL ops t i with
  | true=>DT P ops is (t.setIfInBounds i true) (l++[i])
  | false=>DT P ops is t l
def DU (P:Program) (ops:Array Oper) (_:Nat) (t:Array Bool) (l:List Nat):Array Bool×List Nat:=DT P ops (List.range ops.size) t l
def Lz (acc:List Nat) (o:Oper):Nat:=(o.after.toList.filter (Region.binds .any)).foldl (fun m e=>Nat.lor m (Nat.lor (Nat.shiftLeft 1 e.on) (acc.getD e.on 0))) 0
def Ma (ops:Array Oper):List Nat:=ops.toList.foldl (fun acc o=>acc++[Lz acc o]) []
def PJ (ops:Array Oper) (_ r i:Nat):Bool:=Nat.testBit ((Ma ops).getD r 0) i
inductive uC where
 | take (i:Nat)
 | Ja (vS:List Nat) (lV:List (Nat×List Nat)) (done:List Nat) (r:Nat) (yV:List Nat)
 | fin (vS:List Nat) (lV:List (Nat×List Nat)) (done:List Nat)
def rH (P:Program) (ops:Array Oper) (lV:List Nat) (d:Nat):List Nat:=(lV.filter fun i=>PJ ops ops.size d i).filter fun i=> !BH P ops i
def xB (ops:Array Oper) (d:Nat):Bool:=match ops[d]? with
 | some o=>(List.range ops.size).all fun j=>j==d || (match ops[j]? with
  | some q=>match q.dst with
   | some e=>o.dst != some e&&(!(o.looksAt ops).contains e || PJ ops ops.size d j)
   | none=>true
  | none=>true)
 | none=>false
def GZ:List uC->List Nat
 | []=>[]
 | .take _::l=>GZ l
 | .Ja _ p _ _ _::l=>p.map Prod.fst++GZ l
 | .fin _ p _::l=>p.map Prod.fst++GZ l
def BI (E:Env) (ops:Array Oper) (i:Nat) (o:Oper) (A:aM) (S:St) (K:VK):Bool:=match eO E.P ops i with
 | none=>uQ E o A S K
 | some j=>match ops[j]? with
  | some q=>uQ E q A S fun s S'=>match s with
   | .slice (some ⟨b,0,none⟩) _ _=>match Nat.beq b S.n with
    | true=>lE A q.dst s fun A'=>uQ E o A' S' fun v _=>match v with
     | .string _=>K v S
     | _=>false
    | false=>false
   | _=>false
  | none=>false
def mK (E:Env) (ops:Array Oper) (l:List Nat) (A:aM) (S:St) (k:aM->St->Bool):Bool:=
 fE (β:=aM->St->Bool) (fun A S=>k A S) (fun i _ ih A S=>match ops[i]? with
  | some o=>BI E ops i o A S fun v S=>lE A o.dst v fun A=>ih A S
  | none=>false) l A S
def Ya (A:aM) (o:Oper) (k:Bool):Bool:=match o.dst with
 | some d=>dF (nV A.tmps.t d fun _=>true) false k
 | none=>false
def KI (E:Env) (ops:Array Oper) (A:aM) (S:St) (l:List (Nat×List Nat)) (k:Bool):Bool:=
 fE (β:=Bool) k (fun p _ ih=>match ops[p.1]? with
  | some o=>Ya A o (dF (mK E ops p.2 A S fun A S=>BI E ops p.1 o A S fun _ _=>true) ih false)
  | none=>false) l
def MA (ops:Array Oper) (l:List Nat) (A:aM) (k:aM->Bool):Bool:=
 fE (β:=aM->Bool) k (fun i _ ih A=>match ops[i]? with
  | some o=>match o.dst with
   | some d=>aD7 A.tmps.t d fun t=>ih {A with tmps:=⟨t,A.tmps.n⟩}
   | none=>false
  | none=>false) l A
def lC (E:Env) (ops:Array Oper) (l:List uC) (A:aM) (S:St) (k:aM->St->Bool):Bool:=
 fE (β:=aM->St->Bool) (fun _ _=>false) (fun s _ ih A S=>match s with
  | .take i=>match ops[i]? with
   | some o=>QJ E ops o A S ih
   | none=>false
  | .Ja vS lV D r yV=>match ops[r]? with
   | some o=>uL E ops A S vS (KI E ops A S lV (mK E ops D A S fun A S=>QJ E ops o A S fun A S=>uL E ops A S yV (ih A S)))
   | none=>false
  | .fin vS lV D=>uL E ops A S vS (KI E ops A S lV (mK E ops D A S k))) l A S
theorem IV{P:Program}{U:Rn}{A:aM}{a:Act} (hA:vN P U A a){d:Tmp}{v v':Value} (hv:VR U v v') (ha:∀u,a.tmps.toList[d]? =some u->u=v'){k:aM->Bool} (hk:lE A (some d) v k=true):
 ∃A',k A'=true/\vN P U A' a/\A'.marks=A.marks/\∀e,e≠d->A'.tmps.t.get e=A.tmps.t.get e:=by
 obtain⟨hd,hk⟩:=yR (show qW v A.tmps d (fun ts=>k ⟨ts,A.marks,A.g⟩)=true from hk);refine⟨_,hk,⟨?_,hA.g⟩,rfl,fun e he=>?_⟩
 ·have h1:=hA.tmps.set hd hv
  have hlt:d<a.tmps.toList.length:=by rw [<-hA.tmps.1];exact hd
  have h2:=ha _ (aS hlt);have:a.tmps.toList.set d v'=a.tmps.toList:=by rw [<-h2];exact List.set_getElem_self hlt
  rw [this]at h1;exact h1
 ·show(A.tmps.t.put d v).get e=_
  rw [vB,if_neg he]
theorem YO{P:Program}{o:Oper}{t:Tmp} (h:WN P o=some t):∃s d e,o.op= .convert s d (.tmp t)/\P.underlying s=some (.slice e)/\P.underlying d=some .string/\P.underlying e=some (.int .u8):=by
 unfold WN at h;split at h
 ·rename_i s d t' ho
  split at h
  ·rename_i e hs hd
   split at h
   ·rename_i he
    injection h with h;subst h;exact⟨s,d,e,ho,hs,hd,he⟩
   ·cases h
  ·cases h
 ·cases h
theorem lW{P:Program}{ops:Array Oper}{i j:Nat} (h:eO P ops i=some j):
 ∃o q t,ops[i]? =some o/\WN P o=some t/\o.guard=none/\(∃d,o.dst=some d)/\ops[j]? =some q/\DS q=true/\q.guard=none/\q.dst=some t/\dep ops i j=true:=by
 unfold eO at h;split at h
 ·rename_i o ho
  split at h
  ·rename_i t ht
   split at h
   ·rename_i hg
    have h1:=QB h;split at h1
    ·rename_i q hq
     simp only [bT,Kl,beq_iff_eq,VH]at h1 hg;exact⟨o,q,t,ho,ht,hg.1,hg.2,hq,h1.1,h1.2.1,h1.2.2.1,h1.2.2.2⟩
    ·cases h1
   ·cases h
  ·cases h
 ·cases h
theorem SV{o:Oper} (h:DS o=true):CL o=true:=by
 unfold DS at h;unfold CL;split at h
 ·rename_i h1;rw [h1]
 ·cases h
theorem YP{P:Program}{o:Oper} (h:DS o=true):oU P o=false:=by
 unfold DS at h;unfold oU;split at h
 ·rename_i h1;rw [h1]
 ·cases h
theorem AE{P:Program}{o:Oper}{t:Tmp} (h:WN P o=some t):oU P o=false/\CL o=false/\wZ o=false/\DS o=false:=by
 obtain⟨s,d,e,ho,_,hd,_⟩:=YO h;refine⟨?_,?_,?_,?_⟩
 ·unfold oU;rw [ho];simp only [hd]
 ·unfold CL;rw [ho]
 ·unfold wZ;rw [ho]
 ·unfold DS;rw [ho]
theorem aCe{P:Program}{ops:Array Oper}{j:Nat} (h:BH P ops j=true):∃q,ops[j]? =some q/\DS q=true:=by
 unfold BH at h;simp only [bT]at h;have h1:=h.1;split at h1
 ·rename_i q hq;exact⟨q,hq,h1⟩
 ·cases h1
theorem Az{P:Program}{ops:Array Oper}{i j:Nat} (h:eO P ops i=some j):BH P ops j=true:=by
 obtain⟨o,q,t,ho,_,_,_,hq,hm,_⟩:=lW h;unfold BH;simp only [hq,hm,QD];exact KY.2 ⟨i,LA.2 (mN.1 ho).1,by simp [h]⟩
theorem aMo{E:Env}{w0:World}{U:Rn}{S:St}{w:World} (h:Rel E.P w0 U S w){A:aM}{a:Act} (hA:vN E.P U A a){o:Oper}{t:Tmp} (ho:WN E.P o=some t){b n c:Nat} (ht:A.tmps.t.get t=some (.slice (some ⟨b,0,none⟩) n c)){K:VK} (hk:uQ E o A S K=true):
 ∃L v,U b=some L/\K v S=true/\bA v=true/\∀w':World,w'.heap[L.b]? =w.heap[L.b]? ->(execOp a.eval o).run E.P w'= .ok (.value v) w':=by
 obtain⟨sT,dT,e,KG,hs,hd,he⟩:=YO ho;unfold uQ at hk;rw [KG]at hk;simp only at hk;unfold rQ at hk;simp only at hk;obtain⟨x,hx,hk⟩:=AD hk;rw [ht]at hx;injection hx with hx;subst hx;obtain⟨x',YE,hvr⟩:=hA.tmps.get ht
 have hev:a.eval (.tmp t)=x':=by
  show a.tmps.getD t undef=x';have h1:a.tmps[t]? =some x':=by rw [<-YE];simp
  simp [h1]
 unfold XX at hk;simp only [hs,hd,he]at hk;rcases hvr.iG with ⟨L,c',hL,rfl,_⟩ | ⟨⟨_,h1⟩,_⟩
 ·obtain⟨vs,e',ck,hob,hle,hk⟩:=rG hk
  obtain⟨l',Qk,hlen,hc⟩:=h.vW hob hL hle;obtain⟨ns,hk,hns⟩:=YD hk;rw [hns]at Qk;have aJA:l'=ns.map (fun n=> .int .u8 (.ofNat n)):=Qk.aAW (by simp [bA]);refine⟨L,_,hL,hk,rfl,fun w' hw'=>?_⟩
  have hcell:∀q:Nat,w'.cell? ((⟨L.b,L.s+0,none⟩:Addr).add q)=w.cell? ((⟨L.b,L.s+0,none⟩:Addr).add q):=by
   intro q;have hbl:((⟨L.b,L.s+0,none⟩:Addr).add q).block=L.b:=by unfold Addr.add;split<;>rfl
   simp only [World.cell?,hbl,hw']
  unfold execOp;simp only [KG,hev];rw [bY,run_convert_bytes_string w' sT dT e _ _ _ hs he hd];have Aw:=run_loadCells (P:=E.P) (w:=w') ⟨L.b,L.s+0,none⟩ l' hlen (fun j v hj=>by rw [hcell];exact hc j v hj);rw [aJA]at Aw;have e1:(⟨ns.map (fun n=>Value.int .u8 (.ofNat n))⟩:Array Value)=((ns.map Int.ofNat).map (Value.int .u8)).toArray:=by simp [List.map_map,Function.comp_def]
  rw [e1]at Aw;rw [run_bytesToString w' _ _ _ _ Aw]
  have hf:∀(l:List Nat) (r:ByteArray),(l.map Int.ofNat).foldl (fun r (n:Int)=>r.push (UInt8.ofNat n.toNat)) r=⟨r.data++(l.map UInt8.ofNat).toArray⟩:=by
   intro l;induction l with
   | nil=>intro r;simp
   | cons b l ih=>intro r;simp only [vK,PY,ih];simp [ByteArray.push]
  rw [hf];have he0:ByteArray.empty.data= #[]:=rfl;rw [he0];simp
 ·cases h1
inductive EF (P:Program) (ops:Array Oper) (n0:Nat) (U:Rn) (a:Act) (w:World):Nat×Option Nat->Prop
 | pure {i:Nat} {o:Oper} {d:Tmp} {v':Value} (ho:ops[i]? =some o) (hd:o.dst=some d) (hp:oU P o=true) (ha:∀u,a.tmps.toList[d]? =some u->u=v') (hr:∀w',(execOp a.eval o).run P w'= .ok (.value v') w'):EF P ops n0 U a w (i,none)
 | mk {i:Nat} {o:Oper} {d:Tmp} {ob:Obj} {Wl:Nat->Value} {b:Nat} (ho:ops[i]? =some o) (hd:o.dst=some d) (hp:CL o=true) (ha:∀u,a.tmps.toList[d]? =some u->u=Wl b) (hr:∀w',(execOp a.eval o).run P w'= .ok (.value (Wl w'.heap.size)) (w'.alloc ob))
  (hb:n0<=b) (hw:w.heap[b]? =some ob) (hf:∀i L,U i=some L->L.b≠b):EF P ops n0 U a w (i,some b)
 | conv {i j:Nat} {o q:Oper} {d t:Tmp} {v':Value} {ob:Obj} {Wl:Nat->Value} {b:Nat} (ho:ops[i]? =some o) (hd:o.dst=some d) (hc:eO P ops i=some j) (hq:ops[j]? =some q) (Rv:q.dst=some t) (ha:∀u,a.tmps.toList[d]? =some u->u=v') (DV:∀u,a.tmps.toList[t]? =some u->u=Wl b)
  (hrq:∀w',(execOp a.eval q).run P w'= .ok (.value (Wl w'.heap.size)) (w'.alloc ob)) (hr:∀w':World,w'.heap[b]? =some ob->(execOp a.eval o).run P w'= .ok (.value v') w')
  (hb:n0<=b) (hw:w.heap[b]? =some ob) (hf:∀i L,U i=some L->L.b≠b):EF P ops n0 U a w (i,some b)
theorem YQ{P:Program}{U:Rn}{S:St}{w0:World}{s:Sem Go.Next}{v:Value}{o:gV}{ob ob':Obj}{mk Wl:Nat->Value} (M:Mk P w0 U S s v o ob mk) (hr:∀w',s.run P w'= .ok (.value (Wl w'.heap.size)) (w'.alloc ob')):ob=ob'/\mk=Wl:=by
 constructor
 ·have h1:=M.run w0
  rw [hr w0]at h1;injection h1 with h1 h2;have h3:(w0.heap.push ob')=(w0.heap.push ob):=kA World.heap h2;have h4:(w0.heap.push ob')[w0.heap.size]? =(w0.heap.push ob)[w0.heap.size]? :=by rw [h3]
  simp at h4;exact h4.symm
 ·funext n
  have h1:=M.run {w0 with heap:=Array.replicate n ob};rw [hr]at h1;injection h1 with h1 h2;injection h1 with h1;simpa using h1.symm
section
variable{E:Env}{w0:World}{ops:Array Oper}
theorem EF.Iz{P:Program}{n0:Nat}{U:Rn}{a:Act}{w:World}{p:Nat×Option Nat} (h:EF P ops n0 U a w p){n:Nat}{L:Loc} (uR:∀b,p.2=some b->b≠L.b):EF P ops n0 (U.put n L) a w p:=by
 have key:∀b,p.2=some b->(∀i M,U i=some M->M.b≠b)->∀i M,U.put n L i=some M->M.b≠b:=by
  intro b hb hf i M hi;unfold Rn.put at hi;split at hi
  ·injection hi with hi;subst hi;exact(uR _ hb).symm
  ·exact hf i M hi
 cases h with
 | pure ho hd hp ha hr=>exact .pure ho hd hp ha hr
 | mk ho hd hp ha hr hb hw hf=>exact .mk ho hd hp ha hr hb hw (key _ rfl hf)
 | conv ho hd hc hq Rv ha DV hrq hr hb hw hf=>exact .conv ho hd hc hq Rv ha DV hrq hr hb hw (key _ rfl hf)
theorem Rw{U:Rn}{A:aM}{a:Act}{S:St}{w:World} (hs:SR E.P w0 U A a S w){i j:Nat}{o q:Oper}{t:Tmp}{ob:Obj}{Wl:Nat->Value}{b:Nat} (ho:ops[i]? =some o) (hc:eO E.P ops i=some j) (hq:ops[j]? =some q) (Rv:q.dst=some t)
 (DV:∀u,a.tmps.toList[t]? =some u->u=Wl b) (hrq:∀w',(execOp a.eval q).run E.P w'= .ok (.value (Wl w'.heap.size)) (w'.alloc ob)) (hb:w0.heap.size<=b) (hw:w.heap[b]? =some ob) (hf:∀i L,U i=some L->L.b≠b) {K:VK} (hk:BI E ops i o A S K=true):
 ∃v,K v S=true/\bA v=true/\∀w':World,w'.heap[b]? =some ob->(execOp a.eval o).run E.P w'= .ok (.value v) w':=by
 obtain⟨o2,q2,t2,uK,hco,_,_,Rx,hm,_,Mb,_⟩:=lW hc;rw [ho]at uK;injection uK with uK;subst uK;rw [hq]at Rx;injection Rx with Rx;subst Rx;rw [Rv]at Mb;injection Mb with Mb;subst Mb;unfold BI at hk;simp only [hc,hq]at hk;obtain⟨s,obj,ob',mk',hk,M⟩:=QT hs.rel hs.act (SV hm) hk;obtain⟨rfl,rfl⟩:=YQ M hrq;dsimp only at hk;split at hk
 ·rename_i bb n c
  split at hk
  ·rename_i hbb
   obtain rfl:bb=S.n:=by
    have:=cV hbb;exact this
   have hlt:b<w.heap.size:=(mN.1 hw).1;obtain⟨L,hL,hLs,oL⟩:=M.obj b hb;have FG:=hs.rel.Pt S.n (bN _);have Qs:Ext U (U.put S.n L):=Rn.FH FG;have hrel:=hs.rel.Iz obj L (by omega) (fun i N hi=>by rw [hL];exact hf i N hi) (fun U' he hU'=>oL U' w he hU' hw) M.olds;rw [Rv]at hk;obtain⟨aMp,hk⟩:=yR (show qW _ A.tmps t (fun ts=>uQ E o ⟨ts,A.marks,A.g⟩ (S.new obj) _)=true from hk)
   have hA':vN E.P (U.put S.n L) ⟨A.tmps.put t (.slice (some ⟨S.n,0,none⟩) n c),A.marks,A.g⟩ a:=by
    have hA0:=hs.act.mono Qs;refine⟨?_,hA0.g⟩;have h1:=hA0.tmps.set aMp (M.val _ b Qs ⟨L,Rn.jN _ _ _,hL,hLs⟩);have aMq:t<a.tmps.toList.length:=by rw [<-hA0.tmps.1];exact aMp
    have h2:=DV _ (aS aMq);have:a.tmps.toList.set t (mk' b)=a.tmps.toList:=by rw [<-h2];exact List.set_getElem_self aMq
    rw [this]at h1;exact h1
   obtain⟨L2,v,Df,hkv,Gx,dD⟩:=aMo hrel hA' hco (b:=S.n) (n:=n) (c:=c) (by show(A.tmps.t.put t _).get t=_;rw [vB,if_pos rfl]) hk;rw [Rn.jN]at Df;injection Df with Df;subst Df;split at hkv
   ·refine⟨_,hkv,Gx,fun w' hw'=>dD w' ?_⟩
    rw [hL,hw',hw]
   ·cases hkv
  ·cases hk
 ·cases hk
theorem IW{U0:Rn}{wa:World}{a:Act}{w:World} (VD:w0.heap.size<=wa.heap.size){k:aM->St->Bool}:∀(l:List Nat) {U:Rn} {A:aM} {S:St} {X:List (Nat×Option Nat)},mK E ops l A S k=true->
 SR E.P w0 U A a S w->sQ U0 wa U w->(∀i∈l,∃p∈X,p.1=i)->(∀i∈l,BH E.P ops i=false)->(∀p∈X,EF E.P ops wa.heap.size U a w p)->(∀p∈X,∀q∈X,∀b,p.2=some b->q.2=some b->BH E.P ops p.1=false->eO E.P ops p.1=none->p=q)->l.Nodup->
 ∃U' A' S',k A' S'=true/\SR E.P w0 U' A' a S' w/\sQ U0 wa U' w/\(∀p∈X,p.1∉l->EF E.P ops wa.heap.size U' a w p)/\∀d,(∀i∈l,∀o,ops[i]? =some o->o.dst≠some d)->A'.tmps.t.get d=A.tmps.t.get d:=by
 intro l;induction l with
 | nil=>intro U A S X hk hs LT _ _ hX _ _;exact⟨U,A,S,hk,hs,LT,fun p hp _=>hX p hp,fun _ _=>rfl⟩
 | cons i l ih=>
  intro U A S X hk hs LT hl hgl hX Ry hnd;unfold mK at hk;rw [aO]at hk;obtain⟨⟨i',ob⟩,hpX,rfl⟩:=hl i (.head _);have hef:=hX _ hpX;have hng:=hgl i' (.head _);have aMr:=QC.1 hnd
  have fin:∀{U1:Rn} {A1:aM} {S1:St} {d:Tmp} {o:Oper},ops[i']? =some o->o.dst=some d->mK E ops l A1 S1 k=true->SR E.P w0 U1 A1 a S1 w->sQ U0 wa U1 w->(∀p∈X,p.1≠i'->EF E.P ops wa.heap.size U1 a w p)->(∀e,e≠d->A1.tmps.t.get e=A.tmps.t.get e)->
   ∃U' A' S',k A' S'=true/\SR E.P w0 U' A' a S' w/\sQ U0 wa U' w/\(∀p∈X,p.1∉i'::l->EF E.P ops wa.heap.size U' a w p)/\∀d,(∀j∈i'::l,∀o,ops[j]? =some o->o.dst≠some d)->A'.tmps.t.get d=A.tmps.t.get d:=by
   intro U1 A1 S1 d o ho hd Yb De aMs hX1 hA1
   obtain⟨U',A',S',g1,g2,g3,g4,g5⟩:=ih (X:=X.filter fun p=>p.1 != i') Yb De aMs (fun j hj=>by
    obtain⟨p,hp,he⟩:=hl j (.tail _ hj);refine⟨p,dU.2 ⟨hp,?_⟩,he⟩;have:p.1≠i':=by rw [he];intro e;subst e;exact aMr.1 hj
    simpa using this) (fun j hj=>hgl j (.tail _ hj)) (fun p hp=>by
    obtain⟨h1,h2⟩:=dU.1 hp;exact hX1 p h1 (by simpa using h2)) (fun p hp q hq=>Ry p (dU.1 hp).1 q (dU.1 hq).1) aMr.2
   refine⟨U',A',S',g1,g2,g3,fun p hp hn=>g4 p (dU.2 ⟨hp,?_⟩) (fun h=>hn (.tail _ h)),fun e he=>?_⟩
   ·have:p.1≠i':=fun h=>hn (by rw [h];exact .head _)
    simpa using this
   ·rw [g5 e (fun j hj=>he j (.tail _ hj)),hA1 e (fun h=>he i' (.head _) o ho (by rw [hd,h]))]
  have plain:∀{o:Oper},ops[i']? =some o->eO E.P ops i'=none->BI E ops i' o A S (fun v S=>lE A o.dst v fun A=>mK E ops l A S k)=true->uQ E o A S (fun v S=>lE A o.dst v fun A=>mK E ops l A S k)=true:=by
   intro o ho hcn hk;unfold BI at hk;rw [hcn]at hk;exact hk
  cases hef with
  | @pure _ o d v' ho hd hp ha hr=>
   simp only [ho]at hk
   have hcn:eO E.P ops i'=none:=by
    cases h:eO E.P ops i' with
    | none=>rfl
    | some j=>
     obtain⟨o2,_,t,uK,hco,_⟩:=lW h;rw [ho]at uK;injection uK with uK;subst uK;rw [(AE hco).1]at hp;cases hp
   have hk:uQ E o A S (fun v S=>lE A o.dst v fun A=>mK E ops l A S k)=true:=plain ho hcn hk;obtain⟨v,v'',hk,hv,dD⟩:=IU hs.rel hs.act hp hk
   have he:v''=v':=by
    have:=dD w;rw [hr w]at this;injection this with h1 _;injection h1 with h1;exact h1.symm
   subst he;rw [hd]at hk;obtain⟨A',hk,hA',hm,hg⟩:=IV hs.act hv ha hk;exact fin ho hd hk ⟨hA',hs.rel,by rw [hm];exact hs.marks⟩ LT (fun p hp _=>hX p hp) hg
  | @conv _ j o q d t v' ob Wl b ho hd hc hq Rv ha DV hrq hr hb hw hf=>
   simp only [ho]at hk;have hk:BI E ops i' o A S (fun v S=>lE A o.dst v fun A=>mK E ops l A S k)=true:=hk;obtain⟨v,hk,Gx,dD⟩:=Rw hs ho hc hq Rv DV hrq (rD VD hb) hw hf hk
   have he:v=v':=by
    have:=dD w hw;rw [hr w hw]at this;injection this with h1 _;injection h1 with h1;exact h1.symm
   subst he;rw [hd]at hk;obtain⟨A',hk,hA',hm,hg⟩:=IV hs.act (.flat Gx) ha hk;exact fin ho hd hk ⟨hA',hs.rel,by rw [hm];exact hs.marks⟩ LT (fun p hp _=>hX p hp) hg
  | @mk _ o d ob Wl b ho hd hp ha hr hb hw hf=>
   simp only [ho]at hk
   have hcn:eO E.P ops i'=none:=by
    cases h:eO E.P ops i' with
    | none=>rfl
    | some j=>
     obtain⟨o2,_,t,uK,hco,_⟩:=lW h;rw [ho]at uK;injection uK with uK;subst uK;rw [(AE hco).2.1]at hp;cases hp
   have hk:uQ E o A S (fun v S=>lE A o.dst v fun A=>mK E ops l A S k)=true:=plain ho hcn hk;obtain⟨v,obj,ob',mk',hk,M⟩:=QT hs.rel hs.act hp hk;obtain⟨rfl,rfl⟩:=YQ M hr;have hlt:b<w.heap.size:=(mN.1 hw).1;obtain⟨L,hL,hLs,oL⟩:=M.obj b (rD VD hb);have FG:=hs.rel.Pt S.n (bN _);have Qs:Ext U (U.put S.n L):=Rn.FH FG;have hrel:=hs.rel.Iz obj L (by omega) (fun i N hi=>by rw [hL];exact hf i N hi) (fun U' he hU'=>oL U' w he hU' hw) M.olds;have aMt:=LT.Iz (S:=S) FG (L:=L) (by omega);rw [hd]at hk;obtain⟨A',hk,hA',hm,hg⟩:=IV (hs.act.mono Qs) (M.val _ b Qs ⟨L,Rn.jN _ _ _,hL,hLs⟩) ha hk;refine fin ho hd hk ⟨hA',hrel,by rw [hm];exact hs.marks.mono Qs⟩ aMt (fun p hp uR=>(hX p hp).Iz fun b' PC h=>?_) hg;have:=Ry _ hpX p hp b' (by rw [h,hL]) PC hng hcn;rw [<-this]at uR;exact uR rfl
end
def On (t:Array Bool) (j:Nat):Prop:=t.getD j false=true
theorem On.lt{t:Array Bool}{j:Nat} (h:On t j):j<t.size:=by
 unfold On at h;rcases yL j t.size with h' | h'
 ·exact h'
 ·simp [h']at h
theorem Dv{t:Array Bool}{j:Nat}:t.getD j true=false↔j<t.size/\¬On t j:=by
 unfold On;rcases yL j t.size with h | h
 ·simp [h]
 ·simp [h]
theorem On.set{t:Array Bool}{i j:Nat} (hi:i<t.size):On (t.setIfInBounds i true) j↔On t j\/j=i:=by
 unfold On;by_cases e:j=i
 ·subst e;simp [hi]
 ·have h1:(t.setIfInBounds i true)[j]? =t[j]? :=by rw [Wq (dV e)]
  simp [e,h1]
section
variable{P:Program}{ops:Array Oper}
def JZ (ops:Array Oper) (j e:Nat):Prop:=∃o,ops[j]? =some o/\∃x∈o.after,Region.binds .any x=true/\x.on=e
theorem jO{j:Nat}{t:Array Bool}:j∈Region.ready .any ops t↔(j<t.size/\¬On t j)/\j<ops.size/\∀e,JZ ops j e->On t e:=by
 rw [mem_ready,Dv];constructor
 ·rintro⟨h1,o,ho,h2⟩
  refine⟨h1,(mN.1 ho).1,?_⟩
  rintro e ⟨o',OP,x,hx,hb,rfl⟩
  rw [ho]at OP;injection OP with OP;subst OP;exact h2 x hx hb
 ·rintro⟨h1,h2,h3⟩
  exact⟨h1,_,VG h2,fun x hx hb=>h3 _ ⟨_,VG h2,x,hx,hb,rfl⟩⟩
theorem aA6{j e:Nat}:dep ops j e=true↔JZ ops j e:=by
 unfold dep JZ;cases h:ops[j]? with
 | none=>simp
 | some o=>
  simp only [Array.any_eq_true'];constructor
  ·rintro⟨x,hx,hb⟩
   simp only [bT,beq_iff_eq]at hb;exact⟨o,rfl,x,hx,hb.1,hb.2⟩
  ·rintro⟨o',OP,x,hx,hb,he⟩
   injection OP with OP;subst OP;exact⟨x,hx,by simp [hb,he]⟩
def vZ (ops:Array Oper) (t:Array Bool):List Nat->List Nat->Prop
 | _,[]=>True
 | pre,d::l=>(∀e,JZ ops d e->On t e\/e∈pre)/\vZ ops t (d::pre) l
theorem vZ.mono{t:Array Bool}:∀{l pre pre':List Nat},vZ ops t pre l->(∀e∈pre,e∈pre')->vZ ops t pre' l:=by
 intro l;induction l with
 | nil=>intro _ _ _ _;trivial
 | cons d l ih=>
  intro pre pre' h hs;refine⟨fun e he=>(h.1 e he).imp id (hs e),ih h.2 fun e he=>?_⟩;rcases cO.1 he with rfl | he
  ·exact .head _
  ·exact .tail _ (hs e he)
theorem vZ.step{t:Array Bool}{i:Nat} (hi:i<t.size):∀{l pre:List Nat},vZ ops (t.setIfInBounds i true) pre l->vZ ops t (i::pre) l:=by
 intro l;induction l with
 | nil=>intro _ _;trivial
 | cons d l ih=>
  intro pre h;refine⟨fun e he=>?_,(ih h.2).mono fun e he=>?_⟩
  ·rcases h.1 e he with h1 | h1
   ·rcases(On.set hi).1 h1 with h1 | h1
    ·exact .inl h1
    ·subst h1;exact .inr (.head _)
   ·exact .inr (.tail _ h1)
  ·simp only [cO]at he ⊢
   rcases he with h | h | h
   ·exact .inr (.inl h)
   ·exact .inl h
   ·exact .inr (.inr h)
theorem MB{t:Array Bool}{i:Nat}:FL ops t i=true↔i∈Region.ready .any ops t:=by
 rw [jO];unfold FL;cases ho:ops[i]? with
 | none=>
  simp only [cJ,false_iff]
  rintro⟨_,h2,_⟩
  have:=Array.getElem?_eq_none_iff.1 ho;omega
 | some o=>
  have hlt:=(mN.1 ho).1;simp only [bT,uI,dL,KZ];constructor
  ·rintro⟨h1,h2⟩
   refine⟨Dv.1 h1,hlt,?_⟩
   rintro e ⟨o',OP,x,hx,hb,rfl⟩
   rw [ho]at OP;injection OP with OP;subst OP;rcases h2 x (by simpa using hx)with h3 | h3
   ·rw [hb]at h3;cases h3
   ·exact h3
  ·rintro⟨h1,_,h3⟩
   refine⟨Dv.2 h1,fun x hx=>?_⟩;cases hb:Region.binds .any x with
   | false=>exact .inl rfl
   | true=>exact .inr (h3 _ ⟨o,ho,x,by simpa using hx,hb,rfl⟩)
theorem Rz:∀(is:List Nat) (t:Array Bool) (l:List Nat) {c:Array Bool×List Nat},DT P ops is t l=c->
 ∃m,c.2=l++m/\c.1.size=t.size/\(∀j,On c.1 j↔On t j\/j∈m)/\(∀i∈m,kM P ops i=true/\i<t.size/\¬On t i)/\m.Nodup/\vZ ops t [] m:=by
 intro is;induction is with
 | nil=>intro t l c h;subst h;exact⟨[],by simp [DT],rfl,by simp [DT],by simp,.nil,trivial⟩
 | cons i is ih=>
  intro t l c h;unfold DT at h;split at h
  ·rename_i hb
   rw [bT]at hb;obtain⟨xC,hrd⟩:=hb;obtain⟨⟨hi,hun⟩,_,hw⟩:=jO.1 (MB.1 hrd);obtain⟨m,h1,h2,h3,h4,h5,h6⟩:=ih _ _ h;have hs:(t.setIfInBounds i true).size=t.size:=Wu;refine⟨i::m,by rw [h1];simp,h2.trans hs,fun j=>?_,fun j hj=>?_,QC.2 ⟨fun him=>?_,h5⟩,fun e he=> .inl (hw e he),h6.step hi⟩
   ·rw [h3,On.set hi,cO]
    constructor
    ·rintro((h | h) | h)
     ·exact .inl h
     ·exact .inr (.inl h)
     ·exact .inr (.inr h)
    ·rintro(h | h | h)
     ·exact .inl (.inl h)
     ·exact .inl (.inr h)
     ·exact .inr h
   ·rcases cO.1 hj with rfl | hj
    ·exact⟨xC,hi,hun⟩
    ·obtain⟨g1,g2,g3⟩:=h4 j hj
     exact⟨g1,by rw [hs]at g2;exact g2,fun h=>g3 ((On.set hi).2 (.inl h))⟩
   ·exact(h4 i him).2.2 ((On.set hi).2 (.inr rfl))
  ·exact ih t l h
theorem wA (f:Nat) (t:Array Bool) (l:List Nat){c:Array Bool×List Nat} (h:DU P ops f t l=c):
 ∃m,c.2=l++m/\c.1.size=t.size/\(∀j,On c.1 j↔On t j\/j∈m)/\(∀i∈m,kM P ops i=true/\i<t.size/\¬On t i)/\m.Nodup/\vZ ops t [] m:=Rz _ t l h
theorem vZ.snoc{t:Array Bool}{d:Nat}:∀{l pre:List Nat},vZ ops t pre l->(∀e,JZ ops d e->On t e\/e∈pre\/e∈l)->vZ ops t pre (l++[d]):=by
 intro l;induction l with
 | nil=>intro pre _ hd;exact⟨fun e he=>(hd e he).imp id fun h=>h.elim id (fun h=>by cases h),trivial⟩
 | cons i l ih=>
  intro pre h hd;refine⟨h.1,ih h.2 fun e he=>?_⟩;rcases hd e he with h1 | h1 | h1
  ·exact .inl h1
  ·exact .inr (.inl (.tail _ h1))
  ·rcases cO.1 h1 with rfl | h1
   ·exact .inr (.inl (.head _))
   ·exact .inr (.inr h1)
theorem vZ.filter{t t2:Array Bool}{q:Nat->Bool} (ht:∀e,On t e->On t2 e):∀{l pre pre2:List Nat},vZ ops t pre l->(∀e∈pre,On t2 e\/e∈pre2)->(∀e∈l,q e=false->On t2 e)->vZ ops t2 pre2 (l.filter q):=by
 intro l;induction l with
 | nil=>intro _ _ _ _ _;trivial
 | cons i l ih=>
  intro pre pre2 h hp hl;cases hq:q i with
  | true=>
   rw [List.filter_cons_of_pos hq];refine⟨fun e he=>(h.1 e he).elim (fun h=> .inl (ht e h)) (hp e),ih h.2 (fun e he=>?_) fun e he=>hl e (.tail _ he)⟩;rcases cO.1 he with rfl | he
   ·exact .inr (.head _)
   ·exact(hp e he).imp id (.tail _)
  | false=>
   rw [List.filter_cons_of_neg (by simp [hq])];refine ih h.2 (fun e he=>?_) fun e he=>hl e (.tail _ he);rcases cO.1 he with rfl | he
   ·exact .inl (hl _ (.head _) hq)
   ·exact hp e he
theorem vZ.ready{t t':Array Bool} (hsz:t'.size=ops.size) (aEa:∀j,On t j->On t' j):∀{l pre:List Nat},vZ ops t pre l->(∀e∈pre,On t' e)->(∀i∈l,i<ops.size)->(∃i∈l,¬On t' i)->∃i∈l,i∈Region.ready .any ops t':=by
 intro l;induction l with
 | nil=>rintro _ _ _ _ ⟨i,hi,_⟩;cases hi
 | cons d l ih=>
  rintro pre h Dw hlt ⟨i,hi,hn⟩
  by_cases hd:On t' d
  ·have OM:i∈l:=by
    rcases cO.1 hi with rfl | h'
    ·exact absurd hd hn
    ·exact h'
   obtain⟨j,hj,hr⟩:=ih h.2 (fun e he=>by
    rcases cO.1 he with rfl | he
    ·exact hd
    ·exact Dw e he) (fun i hi=>hlt i (.tail _ hi)) ⟨i,OM,hn⟩
   exact⟨j,.tail _ hj,hr⟩
  ·have hds:=hlt d (.head _)
   exact⟨d,.head _,jO.2 ⟨⟨by omega,hd⟩,hds,fun e he=>(h.1 e he).elim (aEa e) (Dw e)⟩⟩
def Down (ops:Array Oper) (t:Array Bool):Prop:=∀j,On t j->∀e,JZ ops j e->On t e
theorem Down.set{t:Array Bool} (h:Down ops t){i:Nat} (hr:i∈Region.ready .any ops t):Down ops (t.setIfInBounds i true):=by
 obtain⟨⟨hi,_⟩,_,hw⟩:=jO.1 hr;intro j hj e he;rcases(On.set hi).1 hj with hj | rfl
 ·exact(On.set hi).2 (.inl (h j hj e he))
 ·exact(On.set hi).2 (.inl (hw e he))
def Md (ops:Array Oper) (t:Array Bool) (acc:List Nat):Prop:=∀r m,acc[r]? =some m->(∀e,JZ ops r e->On t e)->∀i,Nat.testBit m i=true->On t i
theorem aCg{t:Array Bool}{acc:List Nat} (h:Down ops t) (aCh:Md ops t acc){r:Nat}{o:Oper} (ho:ops[r]? =some o) (hr:∀e,JZ ops r e->On t e){i:Nat} (hi:Nat.testBit (Lz acc o) i=true):On t i:=by
 unfold Lz at hi
 have key:∀(l:List Edge) (m:Nat),(∀e∈l,e∈o.after/\Region.binds .any e=true)->(Nat.testBit m i=true->On t i)->
  Nat.testBit (l.foldl (fun m e=>Nat.lor m (Nat.lor (Nat.shiftLeft 1 e.on) (acc.getD e.on 0))) m) i=true->On t i:=by
  intro l;induction l with
  | nil=>intro m _ hm hi;exact hm hi
  | cons e l ih=>
   intro m hl hm hi;refine ih _ (fun x hx=>hl x (.tail _ hx)) (fun hb=>?_) hi;have hb:Nat.testBit (m ||| (1 <<< e.on ||| acc.getD e.on 0)) i=true:=hb;obtain⟨h1,h2⟩:=hl e (.head _);have OQ:On t e.on:=hr _ ⟨o,ho,e,h1,h2,rfl⟩;simp only [Nat.testBit_or,KZ]at hb;rcases hb with hb | hb | hb
   ·exact hm hb
   ·rw [Nat.one_shiftLeft,Nat.testBit_two_pow]at hb
    have:e.on=i:=by simpa using hb
    rw [<-this];exact OQ
   ·cases ha:acc[e.on]? with
    | none=>rw [ID,ha]at hb;simp at hb
    | some m'=>
     rw [ID,ha]at hb;exact aCh _ _ ha (h _ OQ) _ hb
 refine key _ 0 (fun e he=>?_) (fun h=>by simp at h) hi;obtain⟨h1,h2⟩:=dU.1 he;exact⟨by simpa using h1,h2⟩
theorem aCi{t:Array Bool} (h:Down ops t):Md ops t (Ma ops):=by
 unfold Ma
 have key:∀(l pre:List Oper) (acc:List Nat),ops.toList=pre++l->acc.length=pre.length->Md ops t acc->Md ops t (l.foldl (fun acc o=>acc++[Lz acc o]) acc):=by
  intro l;induction l with
  | nil=>intro pre acc _ _ aCh;exact aCh
  | cons o l ih=>
   intro pre acc he hlen aCh;refine ih (pre++[o]) _ (by rw [he];simp) (by simp [hlen]) ?_;intro r m hr hw i hi;by_cases hlt:r<acc.length
   ·rw [fQ hlt]at hr
    exact aCh r m hr hw i hi
   ·rw [iO (by omega)]at hr
    have hr0:r=acc.length:=by
     rcases yL (r-acc.length) 1 with h1 | h1
     ·omega
     ·rw [DC (by simpa using h1)]at hr;cases hr
    subst hr0;simp at hr;subst hr;refine aCg h aCh ?_ hw hi;have:ops.toList[acc.length]? =some o:=by rw [he,hlen];simp
    simpa using this
 exact key _ [] [] rfl rfl (fun r m hr=>by simp at hr)
theorem Down.PJ{t:Array Bool} (h:Down ops t):∀(f r i:Nat),(∀e,JZ ops r e->On t e)->PJ ops f r i=true->On t i:=by
 intro f r i hr hn;unfold Am.PJ at hn;cases ha:(Ma ops)[r]? with
 | none=>rw [ID,ha]at hn;simp at hn
 | some m=>
  rw [ID,ha]at hn;exact aCi h r m ha hr i hn
end
section
variable{P:Program}{ops:Array Oper}{n0:Nat}{U:Rn}{a:Act}{w:World}
theorem EF.put (rP:Plain ops){p:Nat×Option Nat} (h:EF P ops n0 U a w p){d:Option Tmp}{v:Value} (hd:∀o,ops[p.1]? =some o->∀t,d=some t->t∉o.looksAt ops/\o.dst≠some t)
 (hd2:∀j q,eO P ops p.1=some j->ops[j]? =some q->∀t,d=some t->t∉q.looksAt ops/\q.dst≠some t):EF P ops n0 U (a.put d v) w p:=by
 cases h with
 | @pure i o e v' ho he hp ha hr=>
  refine .pure ho he hp (fun u hu=>ha u ?_) fun w'=>?_
  ·rw [qX]at hu
   ·exact hu
   ·intro h;exact(hd o ho e h).2 he
  ·rw [execOp_put o (rP _ o ho).1 a d v (fun t ht=>(hd o ho t ht).1)];exact hr w'
 | @mk i o e ob Wl b ho he hp ha hr hb hw hf=>
  refine .mk ho he hp (fun u hu=>ha u ?_) (fun w'=>?_) hb hw hf
  ·rw [qX]at hu
   ·exact hu
   ·intro h;exact(hd o ho e h).2 he
  ·rw [execOp_put o (rP _ o ho).1 a d v (fun t ht=>(hd o ho t ht).1)];exact hr w'
 | @conv i j o q e t v' ob Wl b ho he hc hq Rv ha DV hrq hr hb hw hf=>
  refine .conv ho he hc hq Rv (fun u hu=>ha u ?_) (fun u hu=>DV u ?_) (fun w'=>?_) (fun w' hw'=>?_) hb hw hf
  ·rw [qX]at hu
   ·exact hu
   ·intro h;exact(hd o ho e h).2 he
  ·rw [qX]at hu
   ·exact hu
   ·intro h;exact(hd2 j q hc hq t h).2 Rv
  ·rw [execOp_put q (rP _ q hq).1 a d v (fun t ht=>(hd2 j q hc hq t ht).1)];exact hrq w'
  ·rw [execOp_put o (rP _ o ho).1 a d v (fun t ht=>(hd o ho t ht).1)];exact hr w' hw'
theorem EF.stp{p:Nat×Option Nat} (h:EF P ops n0 U a w p){U':Rn}{w':World} (hs:sQ U w U' w'):EF P ops n0 U' a w' p:=by
 have key:∀{b:Nat} {ob:Obj},w.heap[b]? =some ob->(∀i L,U i=some L->L.b≠b)->w'.heap[b]? =some ob/\∀i L,U' i=some L->L.b≠b:=by
  intro b ob hw hf;have hlt:b<w.heap.size:=(mN.1 hw).1;refine⟨(hs.fr.2 b hlt hf).trans hw,fun i L hi=>?_⟩;rcases hs.nw i L hi with h1 | h1 | ⟨j,M,h1,h2⟩
  ·exact hf i L h1
  ·omega
  ·rw [<-h2];exact hf j M h1
 cases h with
 | pure ho he hp ha hr=>exact .pure ho he hp ha hr
 | mk ho he hp ha hr hb hw hf=>exact .mk ho he hp ha hr hb (key hw hf).1 (key hw hf).2
 | conv ho he hc hq Rv ha DV hrq hr hb hw hf=>exact .conv ho he hc hq Rv ha DV hrq hr hb (key hw hf).1 (key hw hf).2
theorem Rel.grow{w0:World}{S:St} (h:Rel P w0 U S w) (ob:Obj):Rel P w0 U S (w.alloc ob):=by
 have hold:∀k,k<w.heap.size->(w.alloc ob).heap[k]? =w.heap[k]? :=fun k hk=>by show(w.heap.push ob)[k]? =_;rw [PW,if_neg (by omega)]
 have hsz:(w.alloc ob).heap.size=w.heap.size+1:=Lb _
 exact⟨h.ZZ,fun i o hi=>(h.DK i o hi).frame (.refl U) fun L hL=>hold _ (h.loc i L hL),h.Pt,h.lt,fun i L hL=>by have:=h.loc i L hL;omega,h.sep,h.old,
  ⟨h.base.os,h.base.tape,h.base.output,by have:=h.base.size;omega,fun k hk=>(hold k (BC hk h.base.size)).trans (h.base.block k hk)⟩⟩
theorem sQ.grow{U0:Rn}{wa:World} (h:sQ U0 wa U w) (ob:Obj):sQ U0 wa U (w.alloc ob):=by
 have hsz:(w.alloc ob).heap.size=w.heap.size+1:=Lb _;refine⟨h.ext,⟨by have:=h.fr.1;omega,fun c hc hn=>?_⟩,h.nw⟩;rw [<-h.fr.2 c hc hn];show(w.heap.push ob)[c]? =_;rw [PW,if_neg (by have:=h.fr.1;omega)]
theorem EF.grow{p:Nat×Option Nat} (h:EF P ops n0 U a w p) (ob:Obj):EF P ops n0 U a (w.alloc ob) p:=by
 refine h.stp ⟨.refl U,⟨by have:(w.alloc ob).heap.size=w.heap.size+1:=Lb _;omega,fun c hc _=>?_⟩,fun _ _ h=> .inl h⟩;show(w.heap.push ob)[c]? =_;rw [PW,if_neg (by omega)]
theorem vN.aJT{A:aM} (h:vN P U A a){d:Tmp} (hd:A.tmps.t.get d=none) (v:Value):vN P U A (a.put (some d) v):=by
 refine⟨⟨?_,fun k x hx=>?_⟩,h.g⟩
 ·show _=(a.tmps.setIfInBounds d v).toList.length
  rw [PU,List.length_set];exact h.tmps.1
 ·obtain⟨y,hy,hr⟩:=h.tmps.2 k x hx
  refine⟨y,?_,hr⟩;show(a.tmps.setIfInBounds d v).toList[k]? =_;rw [PU,PV (fun e=>by subst e;rw [hd]at hx;cases hx)];exact hy
theorem aCj{A:aM}{o:Oper}{k:Bool} (h:Ya A o k=true):∃d,o.dst=some d/\A.tmps.t.get d=none/\k=true:=by
 unfold Ya at h;split at h
 ·rename_i d hd
  refine⟨d,hd,?_⟩;rw [lB]at h;cases hg:A.tmps.t.get d with
  | none=>rw [hg]at h;exact⟨rfl,h⟩
  | some x=>rw [hg]at h;cases h
 ·cases h
end
section
variable{E:Env}{w0:World}{ops:Array Oper}
theorem aCk{A:aM}{S:St}:∀{l:List (Nat×List Nat)} {k:Bool},KI E ops A S l k=true->
 k=true/\∀p∈l,∃o d,ops[p.1]? =some o/\o.dst=some d/\A.tmps.t.get d=none/\mK E ops p.2 A S (fun A S=>BI E ops p.1 o A S fun _ _=>true)=true:=by
 intro l;induction l with
 | nil=>intro k h;exact⟨h,by simp⟩
 | cons p l ih=>
  intro k h;unfold KI at h;rw [aO]at h;split at h
  ·rename_i o ho
   obtain⟨d,hd,hg,h⟩:=aCj h;cases hb:mK E ops p.2 A S (fun A S=>BI E ops p.1 o A S fun _ _=>true)with
   | false=>rw [hb]at h;cases h
   | true=>
    rw [hb]at h;obtain⟨h1,h2⟩:=ih h;refine⟨h1,fun q hq=>?_⟩;rcases cO.1 hq with rfl | hq
    ·exact⟨o,d,ho,hd,hg,hb⟩
    ·exact h2 q hq
  ·cases h
theorem SY{P:Program}{i:Nat}{o:Oper} (ho:ops[i]? =some o) (h:kM P ops i=true):o.guard=none:=by
 unfold kM at h;rw [ho]at h;simp only [KZ]at h;rcases h with h | h
 ·unfold Du at h
  simp only [bT,Kl]at h;exact h.1
 ·obtain⟨j,hj⟩:=VH.1 h
  obtain⟨o2,_,_,uK,_,hg,_⟩:=lW hj;rw [ho]at uK;injection uK with uK;subst uK;exact hg
theorem aCl{U:Rn}{a:Act}{S:St}{A:aM}{w wa:World} (rP:Plain ops) (_hs:SR E.P w0 U A a S w) (hw0:w0.heap.size<=wa.heap.size) (VD:wa.heap.size<=w.heap.size) (aN1:∀i L,U i=some L->L.b<w.heap.size)
 {i:Nat} {o:Oper} {d:Tmp} (ho:ops[i]? =some o) (hd:o.dst=some d) (FJ:d∉o.looksAt ops) (xC:kM E.P ops i=true) {X:List (Nat×Option Nat)}
 {U1:Rn} {A1:aM} {S1:St} (De:SR E.P w0 U1 A1 a S1 w) (Hr:∀j,eO E.P ops i=some j->∃b,(j,some b)∈X/\EF E.P ops wa.heap.size U a w (j,some b)/\EF E.P ops wa.heap.size U1 a w (j,some b)/\∀q,ops[j]? =some q->d∉q.looksAt ops/\q.dst≠some d)
 (hk:BI E ops i o A1 S1 (fun _ _=>true)=true) {U0:Rn} (aPo:sQ U0 wa U w):
 ∃v' wn ob,(execOp a.eval o).run E.P w= .ok (.value v') wn/\(wn=w\/∃x,wn=w.alloc x)/\EF E.P ops wa.heap.size U (a.put o.dst v') wn (i,ob)/\(∀b,ob=some b->(eO E.P ops i=none/\b=w.heap.size)\/∃j,eO E.P ops i=some j/\(j,some b)∈X):=by
 have oT:∀v',execOp (a.put o.dst v').eval o=execOp a.eval o:=fun v'=>execOp_put o (rP _ o ho).1 a o.dst v' (fun t ht=>by rw [hd]at ht;injection ht with ht;subst ht;exact FJ);cases hcv:eO E.P ops i with
 | some j=>
  obtain⟨b,hX,he0,Me,Wk⟩:=Hr j hcv;obtain⟨o2,q2,t,uK,hco,hg,_,Rx,hm,hg2,Mb,_⟩:=lW hcv;rw [ho]at uK;injection uK with uK;subst uK
  have aMu:eO E.P ops j=none:=by
   cases h:eO E.P ops j with
   | none=>rfl
   | some j2=>
    obtain⟨o3,_,t3,ho3,aN2,_⟩:=lW h;rw [Rx]at ho3;injection ho3 with ho3;subst ho3;rw [(AE aN2).2.2.2]at hm;cases hm
  generalize PK:(j,some b)=p0 at he0 Me;cases he0 with
  | pure=>injection PK with _ h;cases h
  | conv _ _ hc=>injection PK with h _;subst h;rw [aMu]at hc;cases hc
  | @mk j' q t' ob Wl b' hq Rv hp ha hr hb hw hf=>
   injection PK with h1 h2;injection h2 with h2;subst h1 h2;rw [Rx]at hq;injection hq with hq;subst hq;rw [Mb]at Rv;injection Rv with Rv;subst Rv
   have Xr:∀i L,U1 i=some L->L.b≠b:=by
    cases Me with
    | mk _ _ _ _ _ _ _ hf=>exact hf
    | conv _ _ hc=>rw [aMu]at hc;cases hc
   obtain⟨v',_,Gx,dD⟩:=Rw De ho hcv Rx Mb ha hr (rD hw0 hb) hw Xr hk;refine⟨v',w,some b,dD w hw,.inl rfl,.conv ho hd hcv Rx Mb (fun u hu=>?_) (fun u hu=>ha u ?_) (fun w'=>?_) (fun w' hw'=>by rw [oT];exact dD w' hw') hb hw hf,fun b' PC=> .inr ⟨j,rfl,by injection PC with PC;subst PC;exact hX⟩⟩
   ·rw [hd]at hu
    exact zT u hu
   ·rw [qX]at hu
    ·exact hu
    ·rw [hd];intro e;injection e with e;subst e;exact(Wk _ Rx).2 Mb
   ·rw [execOp_put q2 (rP _ q2 Rx).1 a o.dst v' (fun t ht=>by rw [hd]at ht;injection ht with ht;subst ht;exact(Wk _ Rx).1)];exact hr w'
 | none=>
 have xC:Du E.P o=true:=by
  unfold kM at xC;rw [ho]at xC;simp only [hcv,Ci,Bool.or_false]at xC;exact xC
 unfold BI at hk;rw [hcv]at hk;have hk:uQ E o A1 S1 (fun _ _=>true)=true:=hk;cases hp:oU E.P o with
 | true=>
  obtain⟨v,v',_,_,hr⟩:=IU De.rel De.act hp hk;refine⟨v',w,none,hr w,.inl rfl,.pure ho hd hp (fun u hu=>?_) (fun w'=>by rw [oT];exact hr w'),fun b h=>by cases h⟩;rw [hd]at hu;exact zT u hu
 | false=>
  have hal:CL o=true:=by
   unfold Du at xC;rw [hp]at xC;simp only [bT,Cl,Bool.false_or]at xC;exact xC.2.2
  obtain⟨v,obj,ob,mk,_,M⟩:=QT De.rel De.act hal hk;refine⟨mk w.heap.size,w.alloc ob,some w.heap.size,M.run w,.inr ⟨ob,rfl⟩,.mk ho hd hal (fun u hu=>?_) (fun w'=>by rw [oT];exact M.run w') VD ?_ (fun i L hi=>?_),fun b h=> .inl ⟨rfl,by injection h with h;exact h.symm⟩⟩
  ·rw [hd]at hu
   exact zT u hu
  ·show(w.heap.push ob)[w.heap.size]? =_;simp
  ·have:=aN1 i L hi;omega
theorem aG7{ro:Option Nat}{P:Program}{Q:Exit->Act->World->Prop}{i:Nat}{o:Oper}{v:Value}{a:Act}{w wn:World} (rP:Plain ops) (hi:ops[i]? =some o) (hg:o.guard=none) (hr:(execOp a.eval o).run P w= .ok (.value v) wn)
 {K:Act->World->Prop} (hk:K (a.put o.dst v) wn):wpOpIn (JW ro) 0 P ops Q i K a w:=by
 have hw:Region.wanted o (yielded ops a.tmps)=true:=by unfold Region.wanted;rw [hg]
 unfold wpOpIn;simp only [hi,hw,if_true,Oper.wpIn,Oper.semAt_eq _ _ _ (rP i o hi).2,hr,Oper.uponIn];exact⟨fun _ _=>trivial,hk⟩
end
section
variable{E:Env}{w0:World}{ops:Array Oper}
theorem Hs{d:Nat}{o:Oper} (h:xB ops d=true) (ho:ops[d]? =some o){j:Nat}{q:Oper}{e:Tmp} (hj:j≠d) (hq:ops[j]? =some q) (he:q.dst=some e):
 o.dst≠some e/\(e∈o.looksAt ops->PJ ops ops.size d j=true):=by
 unfold xB at h;rw [ho]at h;have hlt:j<ops.size:=(mN.1 hq).1;have h1:=dL.1 h j (LA.2 hlt);simp only [hq,he,KZ,beq_iff_eq,bT,bne_iff_ne,uI,ne_eq]at h1;rcases h1 with h1 | ⟨h1,h2⟩
 ·exact absurd h1 hj
 ·refine⟨h1,fun hm=>?_⟩
  rcases h2 with h2 | h2
  ·exfalso
   revert h2;simp [hm]
  ·exact h2
def rem (t:Array Bool):Nat:=(List.range t.size).countP fun j=> !t.getD j false
theorem Mf{t:Array Bool}{i m:Nat} (hi:i<t.size) (hn:¬On t i) (h:rem t<=m+1):rem (t.setIfInBounds i true)<=m:=by
 have hlt:rem (t.setIfInBounds i true)<rem t:=by
  unfold rem;rw [show(t.setIfInBounds i true).size=t.size from Wu]
  have key:∀l:List Nat,(l.countP fun j=> !(t.setIfInBounds i true).getD j false)<=(l.countP fun j=> !t.getD j false)/\(i∈l->(l.countP fun j=> !(t.setIfInBounds i true).getD j false)<(l.countP fun j=> !t.getD j false)):=by
   intro l;induction l with
   | nil=>exact⟨bN _,fun h=>by cases h⟩
   | cons j l ih=>
    by_cases e:j=i
    ·subst e
     have h1:(t.setIfInBounds j true).getD j false=true:=(On.set hi).2 (.inr rfl);have h2:t.getD j false=false:=by simpa [On]using hn
     simp only [List.countP_cons,h1,h2];have h3:=ih.1;simp only [fJ,fD,if_true,cJ,if_false];exact⟨by omega,fun _=>by omega⟩
    ·have h1:(t.setIfInBounds i true).getD j false=t.getD j false:=by
      have h1:(t.setIfInBounds i true)[j]? =t[j]? :=by rw [Wq (dV e)]
      simp [h1]
     simp only [List.countP_cons,h1];refine⟨by have:=ih.1;omega,fun hm=>?_⟩;rcases cO.1 hm with h | h
     ·exact absurd h.symm e
     ·have:=ih.2 h;omega
  exact(key _).2 (LA.2 hi)
 omega
theorem Dx{t:Array Bool} (h:rem t<=0){i:Nat} (hi:i<t.size):On t i:=by
 unfold rem at h;have h0:=List.countP_eq_zero.1 (Nat.le_zero.1 h) i (LA.2 hi);simpa [On]using h0
structure Inv (E:Env) (w0:World) (ops:Array Oper) (U0:Rn) (wa:World) (L:Array Bool) (taken:List Nat) (m:Nat) (L':Array Bool) (X:List (Nat×Option Nat)) (J:List (Nat×Value)) (U:Rn) (A:aM) (a:Act) (S:St) (w:World):Prop where
 hs:SR E.P w0 U A a S w
 stp:sQ U0 wa U w
 szL:L.size=ops.size
 sz:L'.size=ops.size
 on:∀j,On L' j↔On L j\/∃p∈X,p.1=j
 down:Down ops L'
 xf:∀p∈X,EF E.P ops wa.heap.size U a w p
 xl:∀p∈X,xB ops p.1=true/\kM E.P ops p.1=true/\¬On L p.1
 xd:∀p∈X,∀q∈X,p.1=q.1->p=q
 xb:∀p∈X,∀q∈X,∀b,p.2=some b->q.2=some b->BH E.P ops p.1=false->eO E.P ops p.1=none->p=q
 xs:∀p∈X,∀j,eO E.P ops p.1=some j->∃q∈X,q.1=j
 lg:∀j,On L j->BH E.P ops j=false
 jf:∀p∈J,p.1∈taken/\Kn E.P ops a w p
 fuel:rem L'<=m
 xr:vZ ops L [] (X.map Prod.fst).reverse
 jx:∀p∈J,∀q∈X,dep ops q.1 p.1=false
theorem Inv.apart{U0:Rn}{wa:World}{L:Array Bool}{taken:List Nat}{m:Nat}{L':Array Bool}{X:List (Nat×Option Nat)}{J:List (Nat×Value)}{U:Rn}{A:aM}{a:Act}{S:St}{w:World}
 (h:Inv E w0 ops U0 wa L taken m L' X J U A a S w) {j:Nat} {q:Oper} (hq:ops[j]? =some q) (hj:¬On L' j) {p:Nat×Option Nat} (hp:p∈X):
 ∀o,ops[p.1]? =some o->∀t,q.dst=some t->t∉o.looksAt ops/\o.dst≠some t:=by
 intro o ho t ht;have OQ:On L' p.1:=(h.on _).2 (.inr ⟨p,hp,rfl⟩);have uR:j≠p.1:=fun e=>hj (e▸OQ);obtain⟨h1,h2⟩:=Hs (h.xl p hp).1 ho uR hq ht;exact⟨fun hm=>hj (h.down.PJ _ _ _ (h.down _ OQ) (h2 hm)),h1⟩
theorem Inv.Yc{U0:Rn}{wa:World}{L:Array Bool}{taken:List Nat}{m:Nat}{L':Array Bool}{X:List (Nat×Option Nat)}{J:List (Nat×Value)}{U:Rn}{A:aM}{a:Act}{S:St}{w:World}
 (h:Inv E w0 ops U0 wa L taken m L' X J U A a S w) {j:Nat} {q:Oper} (hq:ops[j]? =some q) (hj:¬On L' j) {p:Nat×Option Nat} (hp:p∈X):
 ∀i r,eO E.P ops p.1=some i->ops[i]? =some r->∀t,q.dst=some t->t∉r.looksAt ops/\r.dst≠some t:=by
 intro i r hi hr;obtain⟨p',hp',rfl⟩:=h.xs p hp i hi;exact h.apart hq hj hp' r hr
theorem SZ{P:Program}{i:Nat}{o:Oper} (ho:ops[i]? =some o) (h:neutral P o=true):BH P ops i=false/\eO P ops i=none:=by
 constructor
 ·cases hg:BH P ops i with
  | false=>rfl
  | true=>
   obtain⟨q,hq,hm⟩:=aCe hg;rw [ho]at hq;injection hq with hq;subst hq;unfold neutral at h;rw [YP hm]at h
   have:wZ o=false:=by
    unfold DS at hm;unfold wZ;split at hm
    ·rename_i h1;rw [h1]
    ·cases hm
   rw [this]at h;cases h
 ·cases hc:eO P ops i with
  | none=>rfl
  | some j=>
   obtain⟨o2,_,t,uK,hco,_⟩:=lW hc;rw [ho]at uK;injection uK with uK;subst uK;unfold neutral at h;rw [(AE hco).1,(AE hco).2.2.1]at h;cases h
theorem aCm{P:Program}{j:Nat} (h:BH P ops j=true):kM P ops j=true:=by
 unfold BH at h;simp only [bT]at h;obtain⟨i,_,hi⟩:=KY.1 h.2;have hi:eO P ops i=some j:=by simpa using hi
 obtain⟨_,q,t,_,_,_,_,hq,hm,hg,hd,_⟩:=lW hi;unfold kM;rw [hq];unfold Du;simp [hg,hd,SV hm]
end
section
variable{E:Env}{w0:World}{ops:Array Oper}
theorem Inv.early{ro:Option Nat}{Q:Exit->Act->World->Prop}{U0:Rn}{wa:World}{L:Array Bool}{taken:List Nat}{m:Nat}{L':Array Bool}{X:List (Nat×Option Nat)}{J:List (Nat×Value)}{U:Rn}{A:aM}{a:Act}{S:St}{w:World}
 (rP:Plain ops) (VD:w0.heap.size<=wa.heap.size) (h:Inv E w0 ops U0 wa L taken (m+1) L' X J U A a S w) {d:Nat} {o:Oper} (ho:ops[d]? =some o) (qE:d∈Region.ready .any ops L') (xC:kM E.P ops d=true)
 (BT:xB ops d=true) (FJ:yT ops o=true) (oV:∀p∈taken,dep ops d p=false->leaves ops o p=true) {vS:List Nat} {k:Bool} (Mh:uL E ops A S vS k=true) (Ro:∀i∈vS,iI ops i=true)
 (wK:∀i∈taken,iI ops i=true->i∈vS) {e:Tmp} (hd:o.dst=some e) (aJU:A.tmps.t.get e=none) {c:List Nat} (Dw:mK E ops c A S (fun A S=>BI E ops d o A S fun _ _=>true)=true)
 (hc:∀i∈c,∃p∈X,p.1=i) (hcg:∀i∈c,BH E.P ops i=false) (hcn:c.Nodup) {K:Act->World->Prop}
 (hK:∀a' w' X',Inv E w0 ops U0 wa L taken m (L'.setIfInBounds d true) X' (J.filter fun p=> !dep ops d p.1) U A a' S w'->K a' w'):wpOpIn (JW ro) 0 E.P ops Q d K a w:=by
 obtain⟨U1,A1,S1,Yb,De,_,hX1,_⟩:=IW VD c Dw h.hs h.stp hc hcg h.xf h.xb hcn;obtain⟨⟨aMv,hdn⟩,_,hdw⟩:=jO.1 qE
 have Hr:∀j,eO E.P ops d=some j->∃b,(j,some b)∈X/\EF E.P ops wa.heap.size U a w (j,some b)/\EF E.P ops wa.heap.size U1 a w (j,some b)/\∀q,ops[j]? =some q->e∉q.looksAt ops/\q.dst≠some e:=by
  intro j hj;obtain⟨_,q,t,_,_,_,_,hq,hm,_,_,aG1⟩:=lW hj;have OQ:On L' j:=hdw j (aA6.1 aG1);have hgj:=Az hj;rcases(h.on j).1 OQ with h1 | ⟨⟨j',ob⟩,hp,h1⟩
  ·rw [h.lg j h1]at hgj;cases hgj
  ·have h1:j'=j:=h1
   subst h1;have hef:=h.xf _ hp;have Wk:=h.apart ho hdn hp;have hjc:j'∉c:=fun hm=>by rw [hcg _ hm]at hgj;cases hgj
   cases ob with
   | none=>
    exfalso;cases hef with
    | pure Rx _ hpu _ _=>
     rw [hq]at Rx;injection Rx with Rx;subst Rx;rw [YP hm]at hpu;cases hpu
   | some b=>exact⟨b,hp,hef,hX1 _ hp hjc,fun q hq=>Wk q hq e hd⟩
 obtain⟨v',wn,ob,hr,hwn,hef,hob⟩:=aCl rP h.hs VD h.stp.fr.1 h.hs.rel.loc ho hd (LX FJ e hd) xC (X:=X) De Hr Yb h.stp;have hg:o.guard=none:=SY ho xC;have aN3:(a.put o.dst v').defers=a.defers:=by rw [hd];rfl
 have hsr:SR E.P w0 U A (a.put o.dst v') S wn:=by
  refine⟨by rw [hd];exact h.hs.act.aJT aJU v',?_,by rw [aN3];exact h.hs.marks⟩;rcases hwn with rfl | ⟨x,rfl⟩
  ·exact h.hs.rel
  ·exact h.hs.rel.grow x
 refine aG7 rP ho hg hr (hK _ _ ((d,ob)::X) ⟨hsr,?_,h.szL,Array.size_setIfInBounds.trans h.sz,fun j=>?_,h.down.set qE,fun p hp=>?_,fun p hp=>?_,fun p hp q hq hpq=>?_,fun p hp q hq b Dp OO hg1 hc1=>?_,fun p hp j hj=>?_,h.lg,fun p hp=>?_,Mf aMv hdn h.fuel,?_,fun p hp q hq=>?_⟩)
 ·rcases hwn with rfl | ⟨x,rfl⟩
  ·exact h.stp
  ·exact h.stp.grow x
 ·rw [On.set aMv,h.on]
  constructor
  ·rintro((h1 | ⟨p,hp,h1⟩) | h1)
   ·exact .inl h1
   ·exact .inr ⟨p,.tail _ hp,h1⟩
   ·exact .inr ⟨_,.head _,h1.symm⟩
  ·rintro(h1 | ⟨p,hp,h1⟩)
   ·exact .inl (.inl h1)
   ·rcases cO.1 hp with rfl | hp
    ·exact .inr h1.symm
    ·exact .inl (.inr ⟨p,hp,h1⟩)
 ·rcases cO.1 hp with rfl | hp
  ·exact hef
  ·have h1:=(h.xf p hp).put rP (d:=o.dst) (v:=v') (h.apart ho hdn hp) (h.Yc ho hdn hp)
   rcases hwn with rfl | ⟨x,rfl⟩
   ·exact h1
   ·exact h1.grow x
 ·rcases cO.1 hp with rfl | hp
  ·refine⟨BT,xC,fun h1=>hdn ((h.on _).2 (.inl h1))⟩
  ·exact h.xl p hp
 ·have hX:∀p∈X,p.1≠d:=fun p hp e=>hdn ((h.on _).2 (.inr ⟨p,hp,e⟩))
  rcases cO.1 hp with rfl | hp<;>rcases cO.1 hq with rfl | hq
  ·rfl
  ·exact absurd hpq.symm (hX q hq)
  ·exact absurd hpq (hX p hp)
  ·exact h.xd p hp q hq hpq
 ·have hX:∀p∈X,∀b,p.2=some b->b<w.heap.size:=fun p hp b hb=>by
   have:=h.xf p hp;cases this with
   | pure=>cases hb
   | mk _ _ _ _ _ _ hw _=>injection hb with hb;subst hb;exact(mN.1 hw).1
   | conv _ _ _ _ _ _ _ _ _ _ hw _=>injection hb with hb;subst hb;exact(mN.1 hw).1
  rcases cO.1 hp with rfl | hp<;>rcases cO.1 hq with rfl | hq
  ·rfl
  ·rcases hob b Dp with ⟨_,e1⟩ | ⟨j,hj,_⟩
   ·have:=hX q hq b OO;omega
   ·have hc1:eO E.P ops d=none:=hc1
    rw [hj]at hc1;cases hc1
  ·rcases hob b OO with ⟨_,e1⟩ | ⟨j,hj,hjX⟩
   ·have:=hX p hp b Dp;omega
   ·have e2:=h.xb p hp _ hjX b Dp rfl hg1 hc1
    rw [e2]at hg1;have hg1:BH E.P ops j=false:=hg1;rw [Az hj]at hg1;cases hg1
  ·exact h.xb p hp q hq b Dp OO hg1 hc1
 ·rcases cO.1 hp with rfl | hp
  ·obtain⟨b,hb,_⟩:=Hr j hj
   exact⟨_,.tail _ hb,rfl⟩
  ·obtain⟨q,hq,e1⟩:=h.xs p hp j hj
   exact⟨q,.tail _ hq,e1⟩
 ·obtain⟨hp,hdp⟩:=dU.1 hp
  obtain⟨hpt,hkn⟩:=h.jf p hp;refine⟨hpt,?_⟩;have hlv:=oV p.1 hpt (by simpa using hdp);rcases hkn with ⟨q,k1,k2,k3⟩ | ⟨q,d',k1,k2,k3,k4,k5⟩
  ·exact .inl ⟨q,k1,k2,fun w=>(Yl.put rP (fun q hq t ht=>(tK hlv hq t ht).1)).2 (k3 w)⟩
  ·have DW:iI ops p.1=true:=by unfold iI;rw [k1];simp [k2,k4]
   obtain⟨_,h2⟩:=QS hsr Mh Ro;obtain⟨o2,d2,u',z1,z2,z3,z4⟩:=h2 p.1 (wK _ hpt DW);rw [k1]at z1;injection z1 with z1;subst z1;rw [k4]at z2;injection z2 with z2;subst z2;have uR:o.dst≠some d':=fun e=>(tK hlv k1 d' e).2 k4;have hu:u'=p.2:=k5 u' (by rw [<-z3,qX uR]);subst hu;refine .inr ⟨q,d',k1,k2,z4,k4,fun u hu=>?_⟩;rw [z3]at hu;injection hu with hu;exact hu.symm
 ·rw [vK,List.reverse_cons]
  refine h.xr.snoc fun e he=>?_;rcases(h.on e).1 (hdw e he)with h1 | ⟨p,hp,h1⟩
  ·exact .inl h1
  ·exact .inr (.inr (PX.2 (mA.2 ⟨p,hp,h1⟩)))
 ·obtain⟨hp,hdp⟩:=dU.1 hp
  rcases cO.1 hq with rfl | hq
  ·simpa using hdp
  ·exact h.jx p hp q hq
end
section
variable{E:Env}{w0:World}{ops:Array Oper}
theorem Inv.Sa{ro:Option Nat}{Q:Exit->Act->World->Prop} (hQp:∀c a w,¬Q (.panic c) a w){U0:Rn}{wa:World}{L:Array Bool}{taken:List Nat}{m:Nat}{L':Array Bool}{X:List (Nat×Option Nat)}{J:List (Nat×Value)}{U:Rn}{A:aM}{a:Act}{S:St}{w:World}
 (rP:Plain ops) (VD:w0.heap.size<=wa.heap.size) {i:Nat} {o:Oper} (ho:ops[i]? =some o) (aEb:i∈Region.ready .any ops L) (QU:neutral E.P o=true) (BT:Region.free .any ops L i=true) (FJ:yT ops o=true)
 (oV:taken.all (leaves ops o)=true) (pS:(oU E.P o || iI ops i)=true) {rest:aM->St->Bool} (hk:QJ E ops o A S rest=true)
 (ih:∀{m:Nat} {L':Array Bool} {X:List (Nat×Option Nat)} {J:List (Nat×Value)} {U:Rn} {A:aM} {a:Act} {S:St} {w:World},rest A S=true->Inv E w0 ops U0 wa (L.setIfInBounds i true) (i::taken) m L' X J U A a S w->wY ro E.P ops Q m J L' a w)
 (h:Inv E w0 ops U0 wa L taken m L' X J U A a S w):wY ro E.P ops Q m J L' a w:=by
 obtain⟨⟨Dy,JT⟩,_,hiw⟩:=jO.1 aEb;by_cases OQ:On L' i
 ·
   rcases(h.on i).1 OQ with h1 | ⟨p,hp,hpi⟩
   ·exact absurd h1 JT
   ·have xC:kM E.P ops i=true:=by
     have:=(h.xl p hp).2.1;rw [hpi]at this;exact this
    have hg:o.guard=none:=SY ho xC;obtain⟨hng,Xn⟩:=SZ ho QU
    have hk:mK E ops [i] A S rest=true:=by
     unfold QJ wS at hk;rw [hg]at hk;unfold mK;rw [aO];simp only [ho];unfold BI;rw [Xn];exact hk
    obtain⟨U',A',S',g1,g2,g3,g4,g5⟩:=IW VD [i] hk h.hs h.stp (fun j hj=>⟨p,hp,hpi.trans (wN.1 hj).symm⟩) (fun j hj=>by rw [wN.1 hj];exact hng) h.xf h.xb (by simp);have hX:∀q,q∈X.filter (fun q=>q.1 != i)↔q∈X/\q.1≠i:=fun q=>by rw [dU];simp
    refine ih g1 (X:=X.filter fun q=>q.1 != i) ⟨g2,g3,Array.size_setIfInBounds.trans h.szL,h.sz,fun j=>?_,h.down,fun q hq=>?_,fun q hq=>?_,fun q hq r hr=>h.xd q ((hX q).1 hq).1 r ((hX r).1 hr).1,fun q hq r hr=>h.xb q ((hX q).1 hq).1 r ((hX r).1 hr).1,fun q hq j hj=>?_,fun j hj=>?_,fun q hq=>⟨.tail _ (h.jf q hq).1,(h.jf q hq).2⟩,h.fuel,?_,fun q hq r hr=>h.jx q hq r ((hX r).1 hr).1⟩
    ·rw [h.on,On.set Dy]
     constructor
     ·rintro(h1 | ⟨q,hq,h1⟩)
      ·exact .inl (.inl h1)
      ·by_cases e:j=i
       ·exact .inl (.inr e)
       ·exact .inr ⟨q,(hX q).2 ⟨hq,by rw [h1];exact e⟩,h1⟩
     ·rintro((h1 | h1) | ⟨q,hq,h1⟩)
      ·exact .inl h1
      ·exact .inr ⟨p,hp,hpi.trans h1.symm⟩
      ·exact .inr ⟨q,((hX q).1 hq).1,h1⟩
    ·exact g4 q ((hX q).1 hq).1 (by simpa using((hX q).1 hq).2)
    ·obtain⟨x1,x2,x3⟩:=h.xl q ((hX q).1 hq).1
     refine⟨x1,x2,fun hh=>?_⟩;rcases(On.set Dy).1 hh with hh | hh
     ·exact x3 hh
     ·exact((hX q).1 hq).2 hh
    ·obtain⟨r,hr,hrj⟩:=h.xs q ((hX q).1 hq).1 j hj
     refine⟨r,(hX r).2 ⟨hr,fun e=>?_⟩,hrj⟩;have:=Az hj;rw [<-hrj,e,hng]at this;cases this
    ·rcases(On.set Dy).1 hj with hj | hj
     ·exact h.lg j hj
     ·rw [hj];exact hng
    ·have e1:((X.filter fun q=>q.1 != i).map Prod.fst).reverse=(X.map Prod.fst).reverse.filter fun j=>j != i:=by
      rw [List.filter_reverse,List.filter_map];rfl
     rw [e1];refine h.xr.filter (fun e he=>(On.set Dy).2 (.inl he)) (fun e he=>by cases he) fun e _ he=>(On.set Dy).2 (.inr (by simpa using he))
 ·have aA7:i<L'.size:=by rw [h.sz,<-h.szL];exact Dy
  have aJa:i∈Region.ready .any ops L':=jO.2 ⟨⟨aA7,OQ⟩,by rw [<-h.szL];exact Dy,fun e he=>(h.on e).2 (.inl (hiw e he))⟩;cases m with
  | zero=>exact absurd (Dx h.fuel aA7) OQ
  | succ m=>
   have hs:=h.hs;unfold QJ at hk;have hk:=IS hs.act hk;have aEc:∀(v:Value) (w:World),Yl E.P ops i v a w->Yl E.P ops i v (a.put o.dst v) w:=fun v w h=>(Yl.put rP (fun o' OP t ht=>by rw [ho]at OP;injection OP with OP;subst OP;exact LX FJ t ht)).2 h
   have hold:∀(v:Value),∀p∈J,Kn E.P ops a w p->Kn E.P ops (a.put o.dst v) w p:=by
    intro v p hp hh;have hlv:=dL.1 oV p.1 (h.jf p hp).1;have oT:∀w,Yl E.P ops p.1 p.2 a w->Yl E.P ops p.1 p.2 (a.put o.dst v) w:=fun w h=>(Yl.put rP (fun q hq t ht=>(tK hlv hq t ht).1)).2 h;rcases hh with ⟨q,h1,h2,h3⟩ | ⟨q,d,h1,h2,h3,h4,h5⟩
    ·exact .inl ⟨q,h1,h2,fun w=>oT w (h3 w)⟩
    ·refine .inr ⟨q,d,h1,h2,oT w h3,h4,fun u hu=>h5 u ?_⟩
     rw [qX]at hu
     ·exact hu
     ·intro e;exact(tK hlv h1 d e).2 h4
   have go:∀(v v':Value),lE A o.dst v (fun A=>rest A S)=true->VR U v v'->Kn E.P ops (a.put o.dst v') w (i,v')->wY ro E.P ops Q (m+1) J L' a w:=by
    intro v v' hk hv hkn;obtain⟨U',A',S',g1,g2,g3⟩:=LS (k:=rest) hs ⟨U,v,S,hk,hv,hs.rel,.refl U w⟩;refine wY.take rP hQp ho (LX FJ) m J L' a w (fun j oj hj Ln hun CH=>Region.free_spec ho BT j oj hj Ln ?_ CH) (fun p hp q hq t ht=>?_) aJa (v:=v') ?_
    ·have h1:=Dv.1 hun
     exact Dv.2 ⟨by rw [h.szL,<-h.sz];exact h1.1,fun hh=>h1.2 ((h.on _).2 (.inl hh))⟩
    ·exact(tK (dL.1 oV p.1 (h.jf p hp).1) hq t ht).1
    ·refine ih g1 (X:=X) ⟨g2,h.stp.trans g3,Array.size_setIfInBounds.trans h.szL,Array.size_setIfInBounds.trans h.sz,fun j=>?_,h.down.set aJa,fun q hq=>((h.xf q hq).put rP (h.apart ho OQ hq) (h.Yc ho OQ hq)).stp g3,fun q hq=>?_,h.xd,h.xb,h.xs,fun j hj=>?_,fun p hp=>?_,Mf aA7 OQ h.fuel,?_,fun p hp q hq=>?_⟩
     ·rw [On.set aA7,On.set Dy,h.on]
      constructor
      ·rintro((h1 | h1) | h1)
       ·exact .inl (.inl h1)
       ·exact .inr h1
       ·exact .inl (.inr h1)
      ·rintro((h1 | h1) | h1)
       ·exact .inl (.inl h1)
       ·exact .inr h1
       ·exact .inl (.inr h1)
     ·obtain⟨x1,x2,x3⟩:=h.xl q hq
      refine⟨x1,x2,fun hh=>?_⟩;rcases(On.set Dy).1 hh with hh | hh
      ·exact x3 hh
      ·exact OQ (hh▸(h.on _).2 (.inr ⟨q,hq,rfl⟩))
     ·rcases(On.set Dy).1 hj with hj | hj
      ·exact h.lg j hj
      ·rw [hj];exact(SZ ho QU).1
     ·rcases cO.1 hp with rfl | hp
      ·exact⟨.head _,hkn⟩
      ·exact⟨.tail _ (h.jf p hp).1,hold v' p hp (h.jf p hp).2⟩
     ·have:=h.xr.filter (t2:=L.setIfInBounds i true) (pre2:=[]) (q:=fun _=>true) (fun e he=>(On.set Dy).2 (.inl he)) (fun e he=>by cases he) (fun e _ he=>by cases he)
      rwa [Ku.2 (fun _ _=>rfl)]at this
     ·rcases cO.1 hp with rfl | hp
      ·cases hdq:dep ops q.1 i with
       | false=>rfl
       | true=>exact absurd (h.down q.1 ((h.on _).2 (.inr ⟨q,hq,rfl⟩)) i (aA6.1 hdq)) OQ
      ·exact h.jx p hp q hq
   have kn:∀(v':Value),(oU E.P o=true->∀w,Yl E.P ops i v' a w)->Yl E.P ops i v' a w->Kn E.P ops (a.put o.dst v') w (i,v'):=by
    intro v' h1 h2;cases hpu:oU E.P o with
    | true=>exact .inl ⟨o,ho,hpu,fun w=>aEc v' w (h1 hpu w)⟩
    | false=>
     have hl:iI ops i=true:=by rw [hpu]at pS;simpa using pS
     unfold iI at hl;rw [ho]at hl;simp only [bT]at hl;obtain⟨d,hd⟩:=VH.1 hl.2;refine .inr ⟨o,d,ho,hl.1,aEc v' w h2,hd,?_⟩;rw [hd];exact zT
   cases hw:Region.wanted o (yielded ops a.tmps)with
   | true=>
    rw [hw]at hk;have hk:uQ E o A S (fun v S=>lE A o.dst v fun A=>rest A S)=true:=hk;cases hpu:oU E.P o with
    | true=>
     obtain⟨v,v',hk,hv,dD⟩:=IU hs.rel hs.act hpu hk;exact go v v' hk hv (kn v' (fun _ w=>⟨o,ho,.inl ⟨hw,dD w⟩⟩) ⟨o,ho,.inl ⟨hw,dD w⟩⟩)
    | false=>
     have hl:wZ o=true:=by
      unfold neutral at QU;rw [hpu]at QU;simpa using QU
     obtain⟨v,v',hk,hv,dD⟩:=SQ hs.rel hs.act hl hk;exact go v v' hk hv (kn v' (fun h=>by rw [hpu]at h;cases h) ⟨o,ho,.inl ⟨hw,dD⟩⟩)
   | false=>
    rw [hw]at hk;have hk:lE A o.dst undef (fun A=>rest A S)=true:=hk;exact go undef undef hk .undef (kn undef (fun _ w=>⟨o,ho,.inr ⟨hw,rfl⟩⟩) ⟨o,ho,.inr ⟨hw,rfl⟩⟩)
end
section
variable{E:Env}{w0:World}{ops:Array Oper}
theorem AF{P:Program}{l:List Nat}{d i:Nat}:i∈rH P ops l d↔(i∈l/\PJ ops ops.size d i=true)/\BH P ops i=false:=by
 unfold rH;rw [dU,dU];simp
structure Ask (E:Env) (ops:Array Oper) (L:Array Bool) (taken:List Nat) (A:aM) (S:St) (c:Array Bool×List Nat):Prop where
 close:DU E.P ops ops.size L []=c
 ok:∀d∈c.2,xB ops d=true/\∃o,ops[d]? =some o/\yT ops o=true/\∀p∈taken,dep ops d p=false->leaves ops o p=true
 vS:∃(vS:List Nat) (k:Bool),uL E ops A S vS k=true/\(∀i∈vS,iI ops i=true)/\(c.2≠[]->∀i∈taken,iI ops i=true->i∈vS)
 pre:∀d∈c.2,∃o e,ops[d]? =some o/\o.dst=some e/\A.tmps.t.get e=none/\mK E ops (rH E.P ops c.2 d) A S (fun A S=>BI E ops d o A S fun _ _=>true)=true
theorem Inv.pick{ro:Option Nat}{Q:Exit->Act->World->Prop}{U0:Rn}{wa:World}{L:Array Bool}{taken:List Nat}{m:Nat}{L':Array Bool}{X:List (Nat×Option Nat)}{J:List (Nat×Value)}{U:Rn}{A:aM}{a:Act}{S:St}{w:World}{c:Array Bool×List Nat}
 (rP:Plain ops) (VD:w0.heap.size<=wa.heap.size) (HA:Ask E ops L taken A S c) (h:Inv E w0 ops U0 wa L taken (m+1) L' X J U A a S w) {d:Nat} (hd:d∈c.2) (qE:d∈Region.ready .any ops L')
 {K:Act->World->Prop} (hK:∀a' w' X',Inv E w0 ops U0 wa L taken m (L'.setIfInBounds d true) X' (J.filter fun p=> !dep ops d p.1) U A a' S w'->K a' w'):wpOpIn (JW ro) 0 E.P ops Q d K a w:=by
 obtain⟨mm,h1,_,_,h4,h5,_⟩:=wA _ _ _ HA.close;have e2:c.2=mm:=by rw [h1];rfl
 rw [<-e2]at h4 h5;obtain⟨BT,o,ho,FJ,oV⟩:=HA.ok d hd;obtain⟨vS,k,Mh,Ro,wK⟩:=HA.vS;obtain⟨o',e,OP,hde,aJU,Dw⟩:=HA.pre d hd;rw [ho]at OP;injection OP with OP;subst OP;have xC:kM E.P ops d=true:=(h4 d hd).1;refine Inv.early rP VD h ho qE xC BT FJ oV Mh Ro (wK (fun e=>by rw [e]at hd;cases hd)) hde aJU Dw (fun i hi=>?_) (fun i hi=>(AF.1 hi).2) ((h5.filter _).filter _) hK;obtain⟨⟨hi1,hi2⟩,_⟩:=AF.1 hi;have OQ:On L' i:=h.down.PJ _ _ _ (jO.1 qE).2.2 hi2;rcases(h.on i).1 OQ with h6 | h6
 ·exact absurd h6 (h4 i hi1).2.2
 ·exact h6
end
section
variable{E:Env}{w0:World}{ops:Array Oper}
theorem Sc{P:Program}{L:Array Bool}{c:Array Bool×List Nat} (hsz:L.size=ops.size) (hc:DU P ops ops.size L []=c) (CH:∀i∈Region.ready .any ops c.1,kM P ops i=false):
 ∀(l pre:List Nat),vZ ops L pre l->(∀e∈pre,On c.1 e)->(∀i∈l,kM P ops i=true/\i<ops.size)->∀i∈l,On c.1 i:=by
 obtain⟨mm,h1,h2,h3,_⟩:=wA _ _ _ hc;intro l;induction l with
 | nil=>intro _ _ _ _ i hi;cases hi
 | cons d l ih=>
  intro pre h Dw hl
  have hd:On c.1 d:=by
   by_cases OQ:On c.1 d
   ·exact OQ
   ·obtain⟨hl1,Gz⟩:=hl d (.head _)
    have hr:d∈Region.ready .any ops c.1:=jO.2 ⟨⟨by rw [h2,hsz];exact Gz,OQ⟩,Gz,fun e he=>(h.1 e he).elim (fun h=>(h3 e).2 (.inl h)) (Dw e)⟩;rw [CH d hr]at hl1;cases hl1
  intro i hi;rcases cO.1 hi with rfl | hi
  ·exact hd
  ·exact ih (d::pre) h.2 (fun e he=>by
    rcases cO.1 he with rfl | he
    ·exact hd
    ·exact Dw e he) (fun i hi=>hl i (.tail _ hi)) i hi
theorem TA{P:Program}{i:Nat} (h:kM P ops i=true):i<ops.size:=by
 unfold kM at h;split at h
 ·rename_i o ho;exact(mN.1 ho).1
 ·cases h
section
variable{U0:Rn}{wa:World}{L:Array Bool}{taken:List Nat}{m:Nat}{L':Array Bool}{X:List (Nat×Option Nat)}{J:List (Nat×Value)}{U:Rn}{A:aM}{a:Act}{S:St}{w:World}{c:Array Bool×List Nat}
theorem Inv.aA8 (h:Inv E w0 ops U0 wa L taken m L' X J U A a S w) (hc:DU E.P ops ops.size L []=c) (CH:∀i∈Region.ready .any ops c.1,kM E.P ops i=false){j:Nat} (hj:j∈Region.ready .any ops L'):j∈c.2\/j∈Region.ready .any ops c.1:=by
 obtain⟨mm,h1,h2,h3,h4,h5,h6⟩:=wA _ _ _ hc;have e2:c.2=mm:=by rw [h1];rfl
 obtain⟨⟨hj1,Bb⟩,hj3,hj4⟩:=jO.1 hj
 have hX:∀p∈X,On c.1 p.1:=fun p hp=>Sc h.szL hc CH _ [] h.xr (by simp) (fun i hi=>by
  rw [PX,mA]at hi;obtain⟨p,hp,rfl⟩:=hi;exact⟨(h.xl p hp).2.1,TA (h.xl p hp).2.1⟩) p.1 (by rw [PX,mA];exact⟨p,hp,rfl⟩)
 have aEa:∀e,On L' e->On c.1 e:=fun e he=>by
  rcases(h.on e).1 he with h' | ⟨p,hp,rfl⟩
  ·exact(h3 e).2 (.inl h')
  ·exact hX p hp
 by_cases OQ:On c.1 j
 ·rcases(h3 j).1 OQ with h' | h'
  ·exact absurd ((h.on j).2 (.inl h')) Bb
  ·exact .inl (by rw [e2];exact h')
 ·exact .inr (jO.2 ⟨⟨by rw [h2,h.szL];exact hj3,OQ⟩,hj3,fun e he=>aEa e (hj4 e he)⟩)
theorem Inv.yl (h:Inv E w0 ops U0 wa L taken m L' X J U A a S w):∀p∈J,Yl E.P ops p.1 p.2 a w:=fun p hp=>(h.jf p hp).2.yl
theorem Inv.aA9{ro:Option Nat}{Q:Exit->Act->World->Prop} (hc:jA E.P w0 E.call) (hr:mJ E.P w0 E.round) (rP:Plain ops) (VD:w0.heap.size<=wa.heap.size) (HA:Ask E ops L taken A S c){r:Nat}{o:Oper} (ho:ops[r]? =some o)
 (qE:Region.ready .any ops c.1=[r]) (IC:kM E.P ops r=false) {D oW:List Nat} (hD:D=rH E.P ops c.2 r) (ht':oW=taken.filter fun p=> !dep ops r p&&D.all fun d=> !dep ops d p) (oV:oW.all (leaves ops o)=true)
 {rest:aM->St->Bool} (hk:mK E ops D A S (fun A S=>QJ E ops o A S fun A S=>uL E ops A S (oW.filter (iI ops)) (rest A S))=true)
 (ih:∀{m:Nat} {L':Array Bool} {X:List (Nat×Option Nat)} {J:List (Nat×Value)} {U:Rn} {A:aM} {a:Act} {S:St} {w:World},rest A S=true->Inv E w0 ops U0 wa ((D.foldl (fun t i=>t.setIfInBounds i true) L).setIfInBounds r true) oW m L' X J U A a S w->wY ro E.P ops Q m J L' a w):
 ∀(m:Nat) {L':Array Bool} {X:List (Nat×Option Nat)} {J:List (Nat×Value)} {a:Act} {w:World},Inv E w0 ops U0 wa L taken m L' X J U A a S w->wY ro E.P ops Q m J L' a w:=by
 obtain⟨mm,h1,h2,h3,h4,h5,h6⟩:=wA _ _ _ HA.close;have e2:c.2=mm:=by rw [h1];rfl
 rw [<-e2]at h3 h4 h5 h6;have hrc:r∈Region.ready .any ops c.1:=by rw [qE];exact .head _
 obtain⟨⟨Iq,hr2⟩,hr3,hr4⟩:=jO.1 hrc
 have CH:∀i∈Region.ready .any ops c.1,kM E.P ops i=false:=fun i hi=>by
  rw [qE]at hi;rw [wN.1 hi];exact IC
 have hrL:¬On L r:=fun h=>hr2 ((h3 r).2 (.inl h));have Xk:vZ ops L [] (c.2++[r]):=h6.snoc fun e he=>((h3 e).1 (hr4 e he)).imp id fun h=> .inr h
 have hrn:∀{m:Nat} {L':Array Bool} {X:List (Nat×Option Nat)} {J:List (Nat×Value)} {a:Act} {w:World},Inv E w0 ops U0 wa L taken m L' X J U A a S w->¬On L' r:=fun h OQ=>by
  rcases(h.on r).1 OQ with h' | ⟨p,hp,e⟩
  ·exact hrL h'
  ·have:=(h.xl p hp).2.1
   rw [e,IC]at this;cases this
 intro m;induction m with
 | zero=>
  intro L' X J a w h;exact absurd (Dx h.fuel (by rw [h.sz];exact hr3)) (hrn h)
 | succ m ihm=>
  intro L' X J a w h;have hrn:=hrn h;refine⟨h.yl,fun ON=>?_,fun j hj=>?_⟩
  ·obtain⟨i,_,hi⟩:=Xk.ready h.sz (fun j hj=>(h.on j).2 (.inl hj)) (by simp) (fun i hi=>by
    rcases oR.1 hi with hi | hi
    ·exact TA (h4 i hi).1
    ·rw [wN.1 hi];exact hr3) ⟨r,by simp,hrn⟩
   rw [ON]at hi;cases hi
  ·rcases h.aA8 HA.close CH hj with Bb | Bb
   ·exact Inv.pick rP VD HA h Bb hj fun a' w' X' h'=>ihm h'
   ·rw [qE]at Bb
    have e:=wN.1 Bb;subst e;obtain⟨⟨aMw,_⟩,_,hjw⟩:=jO.1 hj
    have hDX:∀i∈D,∃p∈X,p.1=i:=fun i hi=>by
     rw [hD]at hi;obtain⟨⟨hi1,hi2⟩,_⟩:=AF.1 hi;have OQ:On L' i:=h.down.PJ _ _ _ hjw hi2;rcases(h.on i).1 OQ with h7 | h7
     ·exact absurd h7 (h4 i hi1).2.2
     ·exact h7
    have hDn:D.Nodup:=by rw [hD];exact(h5.filter _).filter _
    have hDg:∀i∈D,BH E.P ops i=false:=fun i hi=>by rw [hD]at hi;exact(AF.1 hi).2
    obtain⟨U1,A1,S1,k1,k2,k3,k4,k5⟩:=IW VD D hk h.hs h.stp hDX hDg h.xf h.xb hDn;have hX:∀q,q∈X.filter (fun q=> !D.contains q.1)↔q∈X/\q.1∉D:=fun q=>by rw [dU];simp
    have aMx:∀(D:List Nat) (t:Array Bool),t.size=ops.size->(∀i∈D,i<ops.size)->(D.foldl (fun t i=>t.setIfInBounds i true) t).size=ops.size/\∀j,On (D.foldl (fun t i=>t.setIfInBounds i true) t) j↔On t j\/j∈D:=by
     intro D;induction D with
     | nil=>intro t ht _;exact⟨ht,fun j=>by simp⟩
     | cons d D ihD=>
      intro t ht hl;have Ae:d<t.size:=by rw [ht];exact hl d (.head _)
      obtain⟨g1,g2⟩:=ihD (t.setIfInBounds d true) (Array.size_setIfInBounds.trans ht) fun i hi=>hl i (.tail _ hi);refine⟨g1,fun j=>(g2 j).trans ?_⟩;rw [On.set Ae,cO];constructor
      ·rintro((h | h) | h)
       ·exact .inl h
       ·exact .inr (.inl h)
       ·exact .inr (.inr h)
      ·rintro(h | h | h)
       ·exact .inl (.inl h)
       ·exact .inl (.inr h)
       ·exact .inr h
    obtain⟨f1,f2⟩:=aMx D L h.szL fun i hi=>by
     rw [hD]at hi;exact TA (h4 i (AF.1 hi).1.1).1
    have Sd:j<(D.foldl (fun t i=>t.setIfInBounds i true) L).size:=by rw [f1];exact hr3
    have go:∀v' w',Next E.P w0 U1 w (fun A S=>uL E ops A S (oW.filter (iI ops)) (rest A S)) (a.put o.dst v') w'->
     wY ro E.P ops Q m (J.filter fun p=> !dep ops j p.1) (L'.setIfInBounds j true) (a.put o.dst v') w':=by
     rintro v' w' ⟨U',A',S',g1,g2,g3⟩
     obtain⟨z1,z2⟩:=QS g2 g1 (fun i hi=>(dU.1 hi).2);have Wk:∀p∈X,∀q,ops[p.1]? =some q->∀t,o.dst=some t->t∉q.looksAt ops/\q.dst≠some t:=fun p hp=>h.apart ho hrn hp;have aN4:∀p∈X,∀i q,eO E.P ops p.1=some i->ops[i]? =some q->∀t,o.dst=some t->t∉q.looksAt ops/\q.dst≠some t:=fun p hp=>h.Yc ho hrn hp;refine ih z1 (X:=X.filter fun q=> !D.contains q.1) ⟨g2,k3.trans g3,Array.size_setIfInBounds.trans f1,Array.size_setIfInBounds.trans h.sz,fun i=>?_,h.down.set hj,fun q hq=>?_,fun q hq=>?_,fun q hq r hr=>h.xd q ((hX q).1 hq).1 r ((hX r).1 hr).1,fun q hq r hr=>h.xb q ((hX q).1 hq).1 r ((hX r).1 hr).1,fun q hq i hi=>?_,fun i hi=>?_,fun p hp=>?_,Mf aMw hrn h.fuel,?_,fun q hq r hr=>h.jx q (dU.1 hq).1 r ((hX r).1 hr).1⟩
     ·rw [On.set aMw,On.set Sd,h.on,f2]
      constructor
      ·rintro((h' | ⟨p,hp,h'⟩) | h')
       ·exact .inl (.inl (.inl h'))
       ·by_cases e:i∈D
        ·exact .inl (.inl (.inr e))
        ·exact .inr ⟨p,(hX p).2 ⟨hp,by rw [h'];exact e⟩,h'⟩
       ·exact .inl (.inr h')
      ·rintro(((h' | h') | h') | ⟨p,hp,h'⟩)
       ·exact .inl (.inl h')
       ·exact .inl (.inr (hDX i h'))
       ·exact .inr h'
       ·exact .inl (.inr ⟨p,((hX p).1 hp).1,h'⟩)
     ·obtain⟨q1,q2⟩:=(hX q).1 hq
      exact((k4 q q1 q2).put rP (Wk q q1) (aN4 q q1)).stp g3
     ·obtain⟨q1,q2⟩:=(hX q).1 hq
      obtain⟨x1,x2,x3⟩:=h.xl q q1;refine⟨x1,x2,fun hh=>?_⟩;rcases(On.set Sd).1 hh with hh | hh
      ·rcases(f2 _).1 hh with hh | hh
       ·exact x3 hh
       ·exact q2 hh
      ·exact hrn (hh▸(h.on _).2 (.inr ⟨q,q1,rfl⟩))
     ·obtain⟨r,hr,hri⟩:=h.xs q ((hX q).1 hq).1 i hi
      refine⟨r,(hX r).2 ⟨hr,fun e=>?_⟩,hri⟩;have:=Az hi;rw [<-hri,hDg _ e]at this;cases this
     ·rcases(On.set Sd).1 hi with hi | hi
      ·rcases(f2 i).1 hi with hi | hi
       ·exact h.lg i hi
       ·exact hDg i hi
      ·rw [hi]
       cases hgj:BH E.P ops j with
       | false=>rfl
       | true=>rw [aCm hgj]at IC;cases IC
     ·obtain⟨hp,hdp⟩:=dU.1 hp
      obtain⟨hpt,hkn⟩:=h.jf p hp
      have aJV:p.1∈oW:=by
       rw [ht',dU];refine⟨hpt,?_⟩;simp only [hdp,QD,dL];intro d hd;obtain⟨q,hq,rfl⟩:=hDX d hd;rw [h.jx p hp q hq];rfl
      refine⟨aJV,?_⟩;have hlv:=dL.1 oV p.1 aJV;rcases hkn with ⟨q,k1,k2,k3⟩ | ⟨q,d,k1,k2,k3,k4,k5⟩
      ·exact .inl ⟨q,k1,k2,fun w=>(Yl.put rP (fun q hq t ht=>(tK hlv hq t ht).1)).2 (k3 w)⟩
      ·obtain⟨o2,d2,u',y1,y2,y3,y4⟩:=z2 p.1 (by
        rw [dU];refine⟨aJV,?_⟩;unfold iI;rw [k1];simp [k2,k4])
       rw [k1]at y1;injection y1 with y1;subst y1;rw [k4]at y2;injection y2 with y2;subst y2;have uR:o.dst≠some d:=fun e=>(tK hlv k1 d e).2 k4;have hu:u'=p.2:=k5 u' (by rw [<-y3,qX uR]);subst hu;refine .inr ⟨q,d,k1,k2,y4,k4,fun u hu=>?_⟩;rw [y3]at hu;injection hu with hu;exact hu.symm
     ·have e1:((X.filter fun q=> !D.contains q.1).map Prod.fst).reverse=(X.map Prod.fst).reverse.filter fun i=> !D.contains i:=by
       rw [List.filter_reverse,List.filter_map];rfl
      rw [e1];refine h.xr.filter (fun e he=>(On.set Sd).2 (.inl ((f2 e).2 (.inl he)))) (fun e he=>by cases he) fun e _ he=>(On.set Sd).2 (.inl ((f2 e).2 (.inr (by simpa using he))))
    unfold QJ at k1;have k1:=IS k2.act k1;unfold wpOpIn;simp only [ho];cases hw:Region.wanted o (yielded ops a.tmps)with
    | true=>
     rw [hw]at k1;have k1:uQ E o A1 S1 (fun v S=>lE A1 o.dst v fun A=>uL E ops A S (oW.filter (iI ops)) (rest A S))=true:=k1;simp only [if_true];exact aDX hc hr k2.rel k2.act k1 fun v' w' hg=>go v' w' (LS (k:=fun A S=>uL E ops A S (oW.filter (iI ops)) (rest A S)) k2 hg)
    | false=>
     rw [hw]at k1;have k1:lE A1 o.dst undef (fun A=>uL E ops A S1 (oW.filter (iI ops)) (rest A S1))=true:=k1;simp only [cJ,if_false];exact⟨fun _ _=>trivial,go undef w (LS (k:=fun A S=>uL E ops A S (oW.filter (iI ops)) (rest A S)) k2 ⟨U1,undef,S1,k1,.undef,k2.rel,.refl U1 w⟩)⟩
theorem Inv.aBa{ro:Option Nat}{Q:Exit->Act->World->Prop} (rP:Plain ops) (VD:w0.heap.size<=wa.heap.size) (HA:Ask E ops L taken A S c) (qE:Region.ready .any ops c.1=[]){k:aM->St->Bool} (hk:mK E ops (c.2.filter fun i=> !BH E.P ops i) A S k=true)
 (hQ:∀a' w',Next E.P w0 U0 wa k a' w'->Q .normal a' w'):
 ∀(m:Nat) {L':Array Bool} {X:List (Nat×Option Nat)} {J:List (Nat×Value)} {a:Act} {w:World},Inv E w0 ops U0 wa L taken m L' X J U A a S w->wY ro E.P ops Q m J L' a w:=by
 obtain⟨mm,h1,h2,h3,h4,h5,h6⟩:=wA _ _ _ HA.close;have e2:c.2=mm:=by rw [h1];rfl
 rw [<-e2]at h3 h4 h5 h6;have CH:∀i∈Region.ready .any ops c.1,kM E.P ops i=false:=fun i hi=>by rw [qE]at hi;cases hi
 have end_:∀{m:Nat} {L':Array Bool} {X:List (Nat×Option Nat)} {J:List (Nat×Value)} {a:Act} {w:World},Inv E w0 ops U0 wa L taken m L' X J U A a S w->Region.ready .any ops L'=[]->Q .normal a w:=by
  intro m L' X J a w h ON
  have hX:∀i∈c.2,∃p∈X,p.1=i:=fun i hi=>by
   have OQ:On L' i:=by
    by_cases OQ:On L' i
    ·exact OQ
    ·obtain⟨j,_,hj⟩:=h6.ready h.sz (fun j hj=>(h.on j).2 (.inl hj)) (by simp) (fun i hi=>TA (h4 i hi).1) ⟨i,hi,OQ⟩
     rw [ON]at hj;cases hj
   rcases(h.on i).1 OQ with h7 | h7
   ·exact absurd h7 (h4 i hi).2.2
   ·exact h7
  obtain⟨U1,A1,S1,k1,k2,k3,_⟩:=IW VD _ hk h.hs h.stp (fun i hi=>hX i (dU.1 hi).1) (fun i hi=>by simpa using(dU.1 hi).2) h.xf h.xb (h5.filter _);exact hQ a w ⟨U1,A1,S1,k1,k2,k3⟩
 intro m;induction m with
 | zero=>
  intro L' X J a w h
  have ON:Region.ready .any ops L'=[]:=by
   cases hl:Region.ready .any ops L' with
   | nil=>rfl
   | cons j l=>
    have hj:j∈Region.ready .any ops L':=by rw [hl];exact .head _
    obtain⟨⟨hj1,Bb⟩,_⟩:=jO.1 hj;exact absurd (Dx h.fuel hj1) Bb
  exact⟨h.yl,ON,end_ h ON⟩
 | succ m ihm=>
  intro L' X J a w h;refine⟨h.yl,end_ h,fun j hj=>?_⟩;rcases h.aA8 HA.close CH hj with Bb | Bb
  ·exact Inv.pick rP VD HA h Bb hj fun a' w' X' h'=>ihm h'
  ·rw [qE]at Bb;cases Bb
end
end
section
variable{E:Env}{w0:World}{ops:Array Oper}
theorem Mj{U:Rn}{a:Act}{w:World}{L:Array Bool}{taken:List Nat}{A:aM}{S:St}{c:Array Bool×List Nat} (hs:SR E.P w0 U A a S w) (hc:DU E.P ops ops.size L []=c)
 (YR:(c.2.all fun d=>xB ops d&&(match ops[d]? with | some o=>yT ops o&&(taken.filter fun p=> !dep ops d p).all (leaves ops o) | none=>false))=true) {K:Bool}
 (hk:uL E ops A S (match c.2 with | []=>[] | _=>taken.filter (iI ops)) (KI E ops A S (c.2.map fun d=>(d,rH E.P ops c.2 d)) K)=true):Ask E ops L taken A S c/\K=true:=by
 have hl:∀i∈(match c.2 with | []=>[] | _=>taken.filter (iI ops)),iI ops i=true:=by
  intro i hi;cases h:c.2 with
  | nil=>rw [h]at hi;cases hi
  | cons d l=>rw [h]at hi;exact(dU.1 hi).2
 obtain⟨h1,_⟩:=QS hs hk hl;obtain⟨h2,h3⟩:=aCk h1;refine⟨⟨hc,fun d hd=>?_,⟨_,_,hk,hl,fun uR i hi DW=>?_⟩,fun d hd=>?_⟩,h2⟩
 ·have:=dL.1 YR d hd
  simp only [bT]at this;refine⟨this.1,?_⟩;have h4:=this.2;split at h4
  ·rename_i o ho
   simp only [bT]at h4;exact⟨o,ho,h4.1,fun p hp hdp=>dL.1 h4.2 p (dU.2 ⟨hp,by rw [hdp];rfl⟩)⟩
  ·cases h4
 ·cases h:c.2 with
  | nil=>exact absurd h uR
  | cons d l=>exact dU.2 ⟨hi,DW⟩
 ·obtain⟨o,e,q1,q2,q3,q4⟩:=h3 (d,rH E.P ops c.2 d) (mA.2 ⟨d,hd,rfl⟩)
  exact⟨o,e,q1,q2,q3,q4⟩
theorem Dz{U:Rn}{a:Act}:∀{l:List Nat} {A:aM} {k:aM->Bool},vN E.P U A a->MA ops l A k=true->∃A',k A'=true/\vN E.P U A' a/\A'.marks=A.marks:=by
 intro l;induction l with
 | nil=>intro A k hA hk;exact⟨A,hk,hA,rfl⟩
 | cons i l ih=>
  intro A k hA hk;unfold MA at hk;rw [aO]at hk;split at hk
  ·split at hk
   ·rename_i o ho d hd
    rw [aA4]at hk
    obtain⟨A',h1,h2,h3⟩:=ih (A:={A with tmps:=⟨A.tmps.t.del d,A.tmps.n⟩}) ⟨⟨hA.tmps.1,fun j v hj=>hA.tmps.2 j v (by
     have hj:(A.tmps.t.del d).get j=some v:=hj;rw [SU]at hj;split at hj
     ·cases hj
     ·exact hj)⟩,hA.g⟩ hk
    exact⟨A',h1,h2,h3⟩
   ·cases hk
  ·cases hk
end
section
variable{β:Type}
def Bg (l:List Bool) (k:List Bool->β):β:=
 fE (β:=(List Bool->β)->β) (fun k=>k []) (fun b _ ih k=>dF b (ih fun t=>k (true::t)) (ih fun t=>k (false::t))) l k
theorem Yi:∀(l:List Bool) (k:List Bool->β),Bg l k=k l:=by
 intro l;induction l with
 | nil=>intro k;rfl
 | cons b l ih=>
  intro k;show dF b (Bg l fun t=>k (true::t)) (Bg l fun t=>k (false::t))=_;rw [ih,ih];cases b<;>rfl
def WQ (t:Array Bool) (k:Array Bool->β):β:=Bg t.toList fun l=>k ⟨l⟩
theorem HB (t:Array Bool) (k:Array Bool->β):WQ t k=k t:=Yi _ _
def WR (P:Program) (ops:Array Oper):List Nat->Array Bool->List Nat->(Array Bool->List Nat->β)->β
 | [],t,l,k=>k t l
 | i::is,t,l,k=>match kM P ops i&&FL ops t i with
  | true=>WQ (t.setIfInBounds i true) fun t=>WR P ops is t (l++[i]) k
  | false=>WR P ops is t l k
theorem Jd (P:Program) (ops:Array Oper):∀(is:List Nat) (t:Array Bool) (l:List Nat) (k:Array Bool->List Nat->β),WR P ops is t l k=k (DT P ops is t l).1 (DT P ops is t l).2:=by
 intro is;induction is with
 | nil=>intro t l k;rfl
 | cons i is ih=>
  intro t l k;unfold WR DT;cases kM P ops i&&FL ops t i with
  | true=>simp only [HB,ih]
  | false=>simp only [ih]
end
def aEi (l:List Nat):Nat:=l.foldl (fun m t=>Nat.lor m (Nat.shiftLeft 1 t)) 0
theorem Je{l:List Nat}{t:Nat} (h:t∈l):Nat.testBit (aEi l) t=true:=by
 unfold aEi
 have key:∀(l:List Nat) (m:Nat),(t∈l\/Nat.testBit m t=true)->Nat.testBit (l.foldl (fun m t=>Nat.lor m (Nat.shiftLeft 1 t)) m) t=true:=by
  intro l;induction l with
  | nil=>intro m h;rcases h with h | h
         ·cases h
         ·exact h
  | cons u l ih=>
   intro m h;refine ih _ ?_;show t∈l\/Nat.testBit (m ||| 1 <<< u) t=true;rw [Nat.testBit_or,KZ,Nat.one_shiftLeft,Nat.testBit_two_pow];rcases h with h | h
   ·rcases cO.1 h with rfl | h
    ·exact .inr (.inr (by simp))
    ·exact .inl h
   ·exact .inr (.inl h)
 exact key l 0 (.inl h)
def aEj (ops:Array Oper):List (Nat×Option Nat):=ops.toList.map fun o=>(aEi (o.looksAt ops),o.dst)
def Sn (ops:Array Oper) (listed:Array Bool) (i:Nat):Bool:=match(aEj ops)[i]? with
 | none=>false
 | some (a,d)=>(List.range ops.size).all fun j=>(match(aEj ops)[j]? with
  | none=>true
  | some (lk,e)=>(match d with | some d=> !Nat.testBit lk d&&(match e with | some e=> !Nat.beq e d | none=>true) | none=>true)&&(match e with | some e=> !Nat.testBit a e | none=>true)) || (j==i || listed.getD j true || dep ops j i)
theorem Ei{ops:Array Oper}{listed:Array Bool}{i:Nat} (h:Sn ops listed i=true):Region.free .any ops listed i=true:=by
 unfold Sn aEj at h;unfold Region.free;rw [lA]at h;cases hi:ops[i]? with
 | none=>
  have:ops.toList[i]? =none:=by simpa using hi
  rw [this]at h;cases h
 | some oi=>
  have DW:ops.toList[i]? =some oi:=by simpa using hi
  rw [DW]at h;simp only [wO]at h;simp only [dL,LA]at h ⊢;intro j hj;have h1:=h j hj;have PF:ops.toList[j]? =some ops[j]:=by simp [hj]
  rw [lA,PF]at h1;rw [VG hj];simp only [wO,KZ]at h1 ⊢;rcases h1 with h1 | (h1 | h1) | h1
  ·refine .inr (.inr ?_)
   unfold Oper.apart;simp only [bT]at h1 ⊢;obtain⟨g1,g2⟩:=h1;constructor
   ·cases hd:oi.dst with
    | none=>rfl
    | some d=>
     rw [hd]at g1;simp only [bT,uI]at g1 ⊢;refine⟨?_,?_⟩
     ·cases hc:(ops[j].looksAt ops).contains d with
      | false=>rfl
      | true=>rw [Je (Kq.1 hc)]at g1;cases g1.1
     ·cases he:ops[j].dst with
      | none=>rfl
      | some e=>
       rw [he]at g1;have g3:=g1.2;simp only [uI]at g3;have:e≠d:=KT g3;simpa using this
   ·cases he:ops[j].dst with
    | none=>rfl
    | some e=>
     rw [he]at g2;simp only [uI]at g2 ⊢;cases hc:(oi.looksAt ops).contains e with
     | false=>rfl
     | true=>rw [Je (Kq.1 hc)]at g2;cases g2
  ·exact .inl (.inl h1)
  ·exact .inl (.inr h1)
  ·refine .inr (.inl ?_)
   unfold dep at h1;rw [VG hj]at h1;exact h1
def HE (P:Program) (ops:Array Oper):Nat->List Nat->Array Bool->List Nat->Option (List uC)
 | 0,_,_,_=>none
 | f+1,i::is,listed,taken=>match ops[i]? with
  | some o=>match neutral P o&&FL ops listed i with
   | true=>match Sn ops listed i&&yT ops o&&taken.all (leaves ops o)&&(oU P o || iI ops i)with
    | true=>(HE P ops f is (listed.setIfInBounds i true) (i::taken)).map (.take i:: ·)
    | false=>HE P ops f is listed taken
   | false=>HE P ops f is listed taken
  | none=>none
 | f+1,[],listed,taken=>
  let c:=DU P ops ops.size listed []
  let lV:=c.2.map fun d=>(d,rH P ops c.2 d)
  let vS:=match c.2 with | []=>[] | _=>taken.filter (iI ops)
  match c.2.all fun d=>xB ops d&&(match ops[d]? with | some o=>yT ops o&&(taken.filter fun p=> !dep ops d p).all (leaves ops o) | none=>false)with
  | true=>match Region.ready .any ops c.1 with
   | []=>some [.fin vS lV (c.2.filter fun i=> !BH P ops i)]
   | [r]=>match ops[r]? with
    | some o=>
     let D:=rH P ops c.2 r
     let oW:=taken.filter fun p=> !dep ops r p&&D.all fun d=> !dep ops d p
     match oW.all (leaves ops o)&& !kM P ops r with
     | true=>(HE P ops f (List.range ops.size) ((D.foldl (fun t i=>t.setIfInBounds i true) listed).setIfInBounds r true) oW).map (.Ja vS lV D r (oW.filter (iI ops)):: ·)
     | false=>none
    | none=>none
   | _=>none
  | false=>none
def YW (P:Program) (ops:Array Oper):Nat->List Nat->Array Bool->List Nat->Option (List uC)
 | 0,_,_,_=>none
 | f+1,i::is,listed,taken=>match ops[i]? with
  | some o=>match neutral P o&&FL ops listed i with
   | true=>match Sn ops listed i&&yT ops o&&taken.all (leaves ops o)&&(oU P o || iI ops i)with
    | true=>WQ (listed.setIfInBounds i true) fun t=>(YW P ops f is t (i::taken)).map (.take i:: ·)
    | false=>YW P ops f is listed taken
   | false=>YW P ops f is listed taken
  | none=>none
 | f+1,[],listed,taken=>
  WR P ops (List.range ops.size) listed [] fun c1 c2=>
  let lV:=c2.map fun d=>(d,rH P ops c2 d)
  let vS:=match c2 with | []=>[] | _=>taken.filter (iI ops)
  match c2.all fun d=>xB ops d&&(match ops[d]? with | some o=>yT ops o&&(taken.filter fun p=> !dep ops d p).all (leaves ops o) | none=>false)with
  | true=>match Region.ready .any ops c1 with
   | []=>some [.fin vS lV (c2.filter fun i=> !BH P ops i)]
   | [r]=>match ops[r]? with
    | some o=>
     let D:=rH P ops c2 r
     let oW:=taken.filter fun p=> !dep ops r p&&D.all fun d=> !dep ops d p
     match oW.all (leaves ops o)&& !kM P ops r with
     | true=>WQ ((D.foldl (fun t i=>t.setIfInBounds i true) listed).setIfInBounds r true) fun t=>(YW P ops f (List.range ops.size) t oW).map (.Ja vS lV D r (oW.filter (iI ops)):: ·)
     | false=>none
    | none=>none
   | _=>none
  | false=>none
theorem aEk (P:Program) (ops:Array Oper):∀(f:Nat) (is:List Nat) (listed:Array Bool) (taken:List Nat),YW P ops f is listed taken=HE P ops f is listed taken:=by
 intro f;induction f with
 | zero=>intro _ _ _;rfl
 | succ f ih=>
  intro is listed taken;cases is with
  | nil=>unfold YW HE;simp only [HB,Jd,ih];rfl
  | cons i is=>unfold YW HE;simp only [HB,ih]
def TB (P:Program) (ops:Array Oper):Option (List uC):=match DR ops with | true=>YW P ops ((ops.size+1)*(ops.size+2)) (List.range ops.size) ⟨List.replicate ops.size false⟩ [] | false=>none
section
variable{E:Env}{w0:World}{ops:Array Oper}
theorem So (hc:jA E.P w0 E.call) (hr:mJ E.P w0 E.round) (rP:Plain ops){ro:Option Nat}{Q:Exit->Act->World->Prop} (hQp:∀c a w,¬Q (.panic c) a w){k:aM->St->Bool}{U0:Rn}{wa:World} (VD:w0.heap.size<=wa.heap.size)
 (hQ:∀a' w',Next E.P w0 U0 wa k a' w'->Q .normal a' w'):∀(f:Nat) (is:List Nat) (L:Array Bool) (taken:List Nat) (steps:List uC),HE E.P ops f is L taken=some steps->
 ∀{m:Nat} {L':Array Bool} {X:List (Nat×Option Nat)} {J:List (Nat×Value)} {U:Rn} {A:aM} {a:Act} {S:St} {w:World},lC E ops steps A S k=true->Inv E w0 ops U0 wa L taken m L' X J U A a S w->wY ro E.P ops Q m J L' a w:=by
 intro f;induction f with
 | zero=>intro is L taken steps hp;cases hp
 | succ f ih=>
  intro is L taken steps hp m L' X J U A a S w hk h;cases is with
  | cons i is=>
   unfold HE at hp;split at hp
   ·rename_i o ho
    split at hp
    ·rename_i QU
     rw [bT]at QU;obtain⟨QU,hrd⟩:=QU;have aEb:=MB.1 hrd;split at hp
     ·rename_i Mh
      simp only [bT]at Mh;obtain⟨⟨⟨BT,FJ⟩,oV⟩,pS⟩:=Mh;cases tG:HE E.P ops f is (L.setIfInBounds i true) (i::taken)with
      | none=>rw [tG]at hp;cases hp
      | some rest=>
       rw [tG]at hp;injection hp with hp;subst hp;unfold lC at hk;rw [aO]at hk;simp only [ho]at hk;exact Inv.Sa hQp rP VD ho aEb QU (Ei BT) FJ oV pS (rest:=fun A S=>lC E ops rest A S k) hk (fun tT h'=>ih _ _ _ _ tG tT h') h
     ·exact ih _ _ _ _ hp hk h
    ·exact ih _ _ _ _ hp hk h
   ·cases hp
  | nil=>
   unfold HE at hp;generalize ZX:DU E.P ops ops.size L []=c at hp;simp only at hp;split at hp
   ·rename_i YR
    split at hp
    ·rename_i qE
     injection hp with hp;subst hp;unfold lC at hk;rw [aO]at hk;simp only at hk;obtain⟨HA,hk⟩:=Mj h.hs ZX YR hk;exact Inv.aBa rP VD HA qE hk hQ m h
    ·rename_i r qE
     split at hp
     ·rename_i o ho
      split at hp
      ·rename_i oV
       simp only [bT,uI]at oV;obtain⟨oV,IC⟩:=oV;generalize tG:HE E.P ops f _ _ _=rest at hp;cases rest with
       | none=>cases hp
       | some rest=>
        injection hp with hp;subst hp;unfold lC at hk;rw [aO]at hk;simp only [ho]at hk;obtain⟨HA,hk⟩:=Mj h.hs ZX YR hk;exact Inv.aA9 hc hr rP VD HA ho qE IC rfl rfl oV (rest:=fun A S=>lC E ops rest A S k) hk (fun tT h'=>ih _ _ _ _ tG tT h') m h
      ·cases hp
     ·cases hp
    ·cases hp
   ·cases hp
def YS (E:Env) (ops:Array Oper) (A:aM) (S:St) (k:aM->St->Bool):Bool:=
 match TB E.P ops with
 | some l=>MA ops (GZ l) A fun A=>lC E ops l A S k
 | none=>false
theorem aEe (hc:jA E.P w0 E.call) (hr:mJ E.P w0 E.round) (hm:E.P.follows .mixedOrders=true):aB8 E w0 (YS E):=by
 intro ops A S k U a w ro id Q hk hs hQ;unfold YS at hk;split at hk
 ·rename_i l hl
  unfold TB at hl;split at hl
  ·rename_i Yj
   rw [aEk]at hl;have hl:HE E.P ops ((ops.size+1)*(ops.size+2)) (List.range ops.size) (Array.replicate ops.size false) []=some l:=hl;have rP:=PI Yj;obtain⟨A',hk,hA',hmk⟩:=Dz hs.act hk
   let Q0:Exit->Act->World->Prop:=fun e a' w'=>e= .normal/\Next E.P w0 U w k a' w'
   have CH:∀j,¬On (Array.replicate ops.size false) j:=fun j h=>by
    unfold On at h;rcases yL j ops.size with h' | h'
    ·simp [h']at h
    ·simp [h']at h
   have aJ1:rem (Array.replicate ops.size false)<=ops.size:=by
    unfold rem;refine rD (List.countP_le_length) ?_;simp
   have h:=So hc hr rP (ro:=ro) (Q:=Q0) (fun c a w h=>by cases h.1) (U0:=U) (wa:=w) hs.rel.base.size (fun a' w' h=>⟨rfl,h⟩) _ _ _ _ l hl (m:=ops.size) (X:=[]) (J:=[]) hk
    ⟨⟨hA',hs.rel.drew,by rw [hmk];exact hs.marks⟩,sQ.drew U w,Array.size_replicate,Array.size_replicate,fun j=>by simp,fun j h=>absurd h (CH j),by simp,by simp,by simp,by simp,by simp,fun j h=>absurd h (CH j),by simp,aJ1,trivial,by simp⟩
   exact wpIn_mono (wpIn_region_any hm h.any) fun e a' w' hq=>by obtain⟨rfl,hn⟩:=hq;exact hQ a' w' hn
  ·cases hl
 ·cases hk
end
def aG8 (P:Program) (ops:Array Oper) (i:Nat) (o:Oper):OpW:=match eO P ops i with
 | none=>Pv P o
 | some j=>match ops[j]? with
  | some q=>⟨fun E A S K=>(Pv P q).f E A S fun s S'=>match s with
   | .slice (some ⟨b,0,none⟩) _ _=>match Nat.beq b S.n with
    | true=>lE A q.dst s fun A'=>(Pv P o).f E A' S' fun v _=>match v with
     | .string _=>K v S
     | _=>false
    | false=>false
   | _=>false⟩
  | none=>⟨fun _ _ _ _=>false⟩
theorem aBb (E:Env) (ops:Array Oper) (i:Nat) (o:Oper) (A:aM) (S:St) (K:VK):(aG8 E.P ops i o).f E A S K=BI E ops i o A S K:=by
 unfold aG8 BI;cases eO E.P ops i with
 | none=>exact yU E o A S K
 | some j=>
  simp only;cases ops[j]? with
  | none=>rfl
  | some q=>simp only [yU]<;>rfl
def Se (P:Program) (ops:Array Oper) (l:List Nat):Dr:=
 fE (β:=Dr) ⟨fun _ A S k=>k A S⟩ (fun i _ ih=>match ops[i]? with
  | some o=>⟨fun E A S k=>(aG8 P ops i o).f E A S fun v S=>aJR o.dst v A fun A=>ih.f E A S k⟩
  | none=>⟨fun _ _ _ _=>false⟩) l
theorem aBc (d:Option Tmp) (v:Value) (A:aM) (k:aM->Bool):aJR d v A k=lE A d v k:=by cases d<;>rfl
theorem Ea (E:Env) (ops:Array Oper):∀(l:List Nat) (A:aM) (S:St) (k:KS),(Se E.P ops l).f E A S k=mK E ops l A S k:=by
 intro l;induction l with
 | nil=>intro A S k;rfl
 | cons i l ih=>
  intro A S k;unfold Se mK at ih ⊢;rw [aO,aO];cases ops[i]? with
  | none=>rfl
  | some o=>
   simp only [aBb,aBc]
   congr 1
   funext v S
   congr 1
   funext A
   exact ih A S k
def aG9 (P:Program) (ops:Array Oper) (l:List (Nat×List Nat)):ChW:=
 fE (β:=ChW) ⟨fun _ _ _ k=>k⟩ (fun p _ ih=>match ops[p.1]? with
  | some o=>⟨fun E A S k=>Ya A o (dF ((Se P ops p.2).f E A S fun A S=>(aG8 P ops p.1 o).f E A S fun _ _=>true) (ih.f E A S k) false)⟩
  | none=>⟨fun _ _ _ _=>false⟩) l
theorem aBd (E:Env) (ops:Array Oper) (A:aM) (S:St) (k:Bool):∀(l:List (Nat×List Nat)),(aG9 E.P ops l).f E A S k=KI E ops A S l k:=by
 intro l;induction l with
 | nil=>rfl
 | cons p l ih=>
  unfold aG9 KI at ih ⊢;rw [aO,aO];cases ops[p.1]? with
  | none=>rfl
  | some o=>simp only [Ea,aBb,ih]
def Bc (P:Program) (ops:Array Oper) (l:List uC):Dr:=
 fE (β:=Dr) ⟨fun _ _ _ _=>false⟩ (fun s _ ih=>match s with
  | .take i=>match ops[i]? with
   | some o=>⟨fun E A S k=>(doW P ops o).f E A S fun A S=>ih.f E A S k⟩
   | none=>⟨fun _ _ _ _=>false⟩
  | .Ja vS lV D r yV=>match ops[r]? with
   | some o=>⟨fun E A S k=>(Xz P ops vS).f E A S ((aG9 P ops lV).f E A S ((Se P ops D).f E A S fun A S=>(doW P ops o).f E A S fun A S=>(Xz P ops yV).f E A S (ih.f E A S k)))⟩
   | none=>⟨fun _ _ _ _=>false⟩
  | .fin vS lV D=>⟨fun E A S k=>(Xz P ops vS).f E A S ((aG9 P ops lV).f E A S ((Se P ops D).f E A S k))⟩) l
theorem Eb (E:Env) (ops:Array Oper):∀(l:List uC) (A:aM) (S:St) (k:KS),(Bc E.P ops l).f E A S k=lC E ops l A S k:=by
 intro l;induction l with
 | nil=>intro A S k;rfl
 | cons s l ih=>
  intro A S k;unfold Bc lC at ih ⊢;rw [aO,aO];cases s with
  | take i=>
   simp only;cases ops[i]? with
   | none=>rfl
   | some o=>simp only [Xy,ih]
  | Ja vS lV D r yV=>
   simp only;cases ops[r]? with
   | none=>rfl
   | some o=>simp only [Xy,aA3,aBd,Ea,ih]
  | fin vS lV D=>simp only [aA3,aBd,Ea]
def aHa (P:Program) (ops:Array Oper) (draw:Bool):Dr:=
 match draw with
 | true=>match TB P ops with
  | some l=>match GZ l with
   | []=>Bc P ops l
   | ls=>⟨fun E A S k=>MA ops ls A fun A=>(Bc P ops l).f E A S k⟩
  | none=>⟨fun _ _ _ _=>false⟩
 | false=>aJS P ops ops.toList
theorem aHb (E:Env) (ops:Array Oper) (draw:Bool) (A:aM) (S:St) (k:KS):(aHa E.P ops draw).f E A S k=dF draw (YS E ops A S k) (OL E ops ops.toList A S k):=by
 cases draw with
 | true=>
  unfold aHa YS dF;simp only;cases TB E.P ops with
  | none=>rfl
  | some l=>
   simp only;cases h:GZ l with
   | nil=>exact Eb E ops l A S k
   | cons d ls=>simp only [Eb]
 | false=>exact aG5 E ops _ A S k
def MC (P:Program) (c:Code):CdW:=
 aMa (β:=CdW)
  ⟨fun _ _ A S K=>K .normal A S⟩
  (fun ops draw=>⟨fun E _ A S K=>(aHa P ops draw).f E A S fun A S=>K .normal A S⟩)
  (fun ha hb=>⟨fun E r A S K=>ha.f E r A S fun e A S=>match e with | .normal=>hb.f E r A S K | e=>K e A S⟩)
  (fun c ha hb=>⟨fun E r A S K=>(vC c).f A fun v=>match v with | .bool b=>dF b (ha.f E r A S K) (hb.f E r A S K) | _=>false⟩)
  (fun id h=>⟨fun E r A S K=>h.f E r A S fun e A S=>match e with
   | .exit i=>match Nat.beq i id with | true=>K .normal A S | false=>K (.exit i) A S
   | e=>K e A S⟩)
  (fun h=>⟨fun E r A S K=>aAU (h.f E r) E.most A S K⟩)
  (fun h=>h)
  (fun f params assign body=>⟨fun E r A S K=>QL E r f params assign body A S K⟩)
  (fun id=>⟨fun _ _ A S K=>K (.exit id) A S⟩)
  ⟨fun _ _ A S K=>K .normal A S⟩
  ⟨fun _ _ A S K=>K .ret A S⟩
  ⟨fun _ _ _ _ _=>false⟩ c
theorem Sf (E:Env) (r:Option Nat):∀(c:Code) (A:aM) (S:St) (K:QK),(MC E.P c).f E r A S K=tB E (YS E) r c A S K:=by
 intro c;induction c with
 | skip=>intro A S K;rfl
 | region id ops draw=>
  intro A S K;show(aHa E.P ops draw).f E A S (fun A S=>K .normal A S)=dF draw (YS E ops A S fun A S=>K .normal A S) (OL E ops ops.toList A S fun A S=>K .normal A S);exact aHb E ops draw A S _
 | seq a b iha ihb=>
  intro A S K;show(MC E.P a).f E r A S (fun e A S=>match e with | .normal=>(MC E.P b).f E r A S K | e=>K e A S)=tB E (YS E) r a A S fun e A S=>match e with | .normal=>tB E (YS E) r b A S K | e=>K e A S
  rw [iha]
  congr 1
  funext e A S
  cases e with
  | normal=>exact ihb A S K
  | _=>rfl
 | cond c a b iha ihb=>
  intro A S K;show(vC c).f A (fun v=>match v with | .bool b'=>dF b' ((MC E.P a).f E r A S K) ((MC E.P b).f E r A S K) | _=>false)=rQ A c fun v=>match v with | .bool b'=>dF b' (tB E (YS E) r a A S K) (tB E (YS E) r b A S K) | _=>false
  rw [kB,iha,ihb]
 | block id a ih=>
  intro A S K
  show(MC E.P a).f E r A S (fun e A S=>match e with
   | .exit i=>match Nat.beq i id with | true=>K .normal A S | false=>K (.exit i) A S
   | e=>K e A S)=_
  rw [ih];rfl
 | loop a ih=>
  intro A S K;show aAU ((MC E.P a).f E r) E.most A S K=aAU (tB E (YS E) r a) E.most A S K;have:(MC E.P a).f E r=tB E (YS E) r a:=by funext A S K;exact ih A S K
  rw [this]
 | scope a ih=>intro A S K;exact ih A S K
 | _=>intros;rfl
def fnL (P:Program) (f:FuncId):FnW:=
 match P.funcs[f]? with
 | some fn=>match fn.body with
  | some c=>⟨fun E args S K=>cG fn.ntmps fun n=>aAR n args fun ts=>(MC P c).f E none ⟨ts,[],P.globals.size⟩ S fun e A S=>
   match e with
   | .exit _=>false
   | _=>GI A.marks S fun S=>qC P fn.results.toList A S fun vs=>match vs with | [v]=>K v S | vs=>K (.tuple ⟨vs⟩) S⟩
  | none=>⟨fun _ _ _ _=>false⟩
 | none=>⟨fun _ _ _ _=>false⟩
theorem aJW (E:Env) (f:FuncId) (args:List Value) (S:St) (K:VK):(fnL E.P f).f E args S K=QM E (YS E) f args S K:=by
 unfold fnL QM;cases E.P.funcs[f]? with
 | none=>rfl
 | some fn=>
  simp only;cases fn.body with
  | none=>rfl
  | some c=>simp only [Sf]<;>rfl
def Ec (P:Program) (E:Env) (l:Nat) (args:List Value) (S:St) (K:VK):Bool:=
 nV S.h l fun o=>match o with
  | .loop tmps params assign body _ _=>
   let laid:List Tmp->List Value->Tm->(Tm->Bool)->Bool:=fun ps=>fE (β:=List Value->Tm->(Tm->Bool)->Bool)
    (fun as ts k=>match as with | []=>k ts | _=>false) (fun p _ ih as ts k=>match as with | a::as=>qW a ts p fun ts=>ih as ts k | []=>false) ps
   laid params args tmps fun ts=>(MC P assign).f E (some l) ⟨ts,[],P.globals.size⟩ S fun e A S=>match e with
    | .normal=>nV S.h l fun o=>match o with
     | .loop tm ps as bo .ready pe=>pX S l (.loop tm ps as bo .busy pe) fun S=>(MC P body).f E (some l) A S fun e _ S=>
      nV S.h l fun o=>match o with
       | .loop tm ps as bo _ _=>match e with
        | .normal=>pX S l (.loop tm ps as bo .ready none) fun S=>K (.bool true) S
        | .ret=>pX S l (.loop tm ps as bo .done (some .ret)) fun S=>K (.bool false) S
        | .exit id=>pX S l (.loop tm ps as bo .done (some (.exit id))) fun S=>K (.bool false) S
       | _=>false
     | _=>false
    | _=>false
  | _=>false
theorem aCn (E:Env) (l:Nat) (args:List Value) (S:St) (K:VK):Ec E.P E l args S K=WE E (YS E) l args S K:=by
 unfold Ec WE;simp only [Sf]<;>rfl
def aEd (P:Program) (ov:FuncId->Option (List Value->St->VK->Bool)) (most:Nat) (n:Nat):Env:=
 IK (β:=Env) {P,ov,call:=fun _ _ _ _=>false,round:=fun _ _ _ _=>false,most}
  (fun _ E=>{P,ov,call:=fun f args S K=>match ov f with | some g=>g args S K | none=>(fnL P f).f E args S K,round:=fun l args S K=>Ec P E l args S K,most}) n
theorem aHc (P:Program) (ov:FuncId->Option (List Value->St->VK->Bool)) (most:Nat):∀n,aEd P ov most n=env P ov YS most n:=by
 intro n;induction n with
 | zero=>rfl
 | succ n ih=>
  have hP:=aI6 P ov YS most n
  have h1:∀f args S K,(fnL P f).f (env P ov YS most n) args S K=QM (env P ov YS most n) (YS (env P ov YS most n)) f args S K:=by
   intro f args S K;rw [<-aJW,hP]
  have h2:∀l args S K,Ec P (env P ov YS most n) l args S K=WE (env P ov YS most n) (YS (env P ov YS most n)) l args S K:=by
   intro l args S K;rw [<-aCn,hP]
  show({P,ov,call:=fun f args S K=>match ov f with | some g=>g args S K | none=>(fnL P f).f (aEd P ov most n) args S K,round:=fun l args S K=>Ec P (aEd P ov most n) l args S K,most}:Env)=_;rw [ih];simp only [h1,h2];rfl
theorem Yd{P:Program}{ov:FuncId->Option (List Value->St->VK->Bool)}{most n:Nat}{w0:World} (hov:Dq P w0 ov) (DP:∀(f:FuncId) (fn:Func),P.funcs[f]? =some fn->fn.name≠ "runtime.NumGoroutine") (hm:P.follows .mixedOrders=true):
 jA P w0 (aEd P ov most n).call:=by
 rw [aHc];exact(aB9 (w0:=w0) (ov:=ov) (dr:=YS) (most:=most) hov DP (fun E hE hc hr=>aEe (by rw [hE];exact hc) (by rw [hE];exact hr) (by rw [hE];exact hm)) n).1
section
variable{P:Program}{w0:World}{U:Rn}{S:St}{w w':World}
theorem Es (hw:Below w0.heap.size w0 w) (hb:Below w.heap.size w w'):Below w0.heap.size w0 w':=hw.trans (hb.mono hw.size)
theorem Rel.below (h:Rel P w0 U S w) (hb:Below w.heap.size w w'):Rel P w0 U S w'/\sQ U w U w':=
 ⟨⟨h.ZZ,fun i o hi=>(h.DK i o hi).frame (.refl U) fun L hL=>hb.block _ (h.loc i L hL),h.Pt,h.lt,fun i L hi=>BC (h.loc i L hi) hb.size,h.sep,h.old,Es h.base hb⟩,
   .refl U,⟨hb.size,fun c hc _=>hb.block c hc⟩,fun _ _ h=> .inl h⟩
theorem Rel.aEN (h:Rel P w0 U S w) (hb:Below w.heap.size w w') (o:gV) (L:Loc) (hL:w.heap.size<=L.b) (hL':L.b<w'.heap.size)
 (ho:∀U':Rn,Ext U U'->U' S.n=some L->yQ P w0 U' w' S.n o) (Cw:o.olds=[]):
 Rel P w0 (U.put S.n L) (S.new o) w'/\sQ U w (U.put S.n L) w':=by
 have FG:=h.Pt S.n (bN _);have he:Ext U (U.put S.n L):=Rn.FH FG;have hsz:=hb.size
 have oT:∀j M,U.put S.n L j=some M->(j=S.n/\M=L)\/(j≠S.n/\U j=some M):=fun j M hj=>by
  unfold Rn.put at hj;by_cases e:j=S.n
  ·rw [if_pos e]at hj;injection hj with hj;exact .inl ⟨e,hj.symm⟩
  ·rw [if_neg e]at hj;exact .inr ⟨e,hj⟩
 have oL:∀j x,(S.new o).obj j=some x->(j=S.n/\x=o)\/(j≠S.n/\S.obj j=some x):=fun j x hx=>by
  rw [IQ]at hx;by_cases e:j=S.n
  ·rw [if_pos e]at hx;injection hx with hx;exact .inl ⟨e,hx.symm⟩
  ·rw [if_neg e]at hx;exact .inr ⟨e,hx⟩
 refine⟨⟨fun g hg=>let⟨M,h1,h2⟩:=h.ZZ g hg;⟨M,he _ _ h1,h2⟩,fun j x hx=>?_,fun j hj=>?_,fun j x hx=>?_,fun j M hj=>?_,fun i j a b M N KE ha PC hda hdb hM hN ZY=>?_,fun j vs e olds hj i hi=>?_,Es h.base hb⟩,he,⟨hsz,fun c hc _=>hb.block c hc⟩,fun j M hj=>?_⟩
 ·rcases oL j x hx with ⟨e,ex⟩ | ⟨e,hx⟩
  ·subst e ex;exact ho _ he (Rn.jN _ _ _)
  ·exact(h.DK j x hx).frame he fun M hM=>hb.block _ (h.loc j M hM)
 ·have YH:S.n+1<=j:=hj
  unfold Rn.put;rw [if_neg (by omega)];exact h.Pt j (by omega)
 ·rcases oL j x hx with ⟨e,_⟩ | ⟨_,hx⟩
  ·subst e;exact vI _
  ·exact nT (h.lt j x hx)
 ·rcases oT j M hj with ⟨_,e⟩ | ⟨_,hM⟩
  ·subst e;exact hL'
  ·have:=h.loc j M hM;omega
 ·rcases oT i M hM with ⟨ei,eM⟩ | ⟨ei,YG⟩<;>rcases oT j N hN with ⟨ej,eN⟩ | ⟨ej,hN'⟩
  ·omega
  ·have:=h.loc j N hN';rw [eM]at ZY;omega
  ·have:=h.loc i M YG;rw [eN]at ZY;omega
  ·rcases oL i a ha with ⟨e,_⟩ | ⟨_,ha'⟩
   ·exact absurd e ei
   ·rcases oL j b PC with ⟨e,_⟩ | ⟨_,aOu⟩
    ·exact absurd e ej
    ·exact h.sep i j a b M N KE ha' aOu hda hdb YG hN' ZY
 ·rcases oL j _ hj with ⟨e1,e2⟩ | ⟨e1,YH⟩
  ·rw [<-e2]at Cw
   simp only [gV.olds]at Cw;rw [Cw]at hi;cases hi
  ·obtain⟨h1,h2⟩:=h.old j vs e olds YH i hi
   refine⟨nT h1,fun x hx=>?_⟩;rcases oL i x hx with ⟨e3,_⟩ | ⟨e3,YE⟩
   ·omega
   ·rcases h2 x YE with h3 | ⟨ws,e',h3,h4⟩
    ·exact .inl h3
    ·refine .inr ⟨ws,e',h3,fun L1 M Hb hM hb=>?_⟩
     rcases oT _ _ Hb with ⟨e4,_⟩ | ⟨_,aD3⟩
     ·exact absurd e4 e1
     ·rcases oT _ _ hM with ⟨e5,_⟩ | ⟨_,YG⟩
      ·exact absurd e5 e3
      ·exact h4 L1 M aD3 YG hb
 ·rcases oT j M hj with ⟨_,e⟩ | ⟨_,hM⟩
  ·subst e;exact .inr (.inl hL)
  ·exact .inl hM
theorem Rel.aEO (h:Rel P w0 U S w) (hb:Below w.heap.size w w'){Ag:Nat}{cur:Array Value}{e:TypeId}{cs cs':List Value}{m:Nat} (hm:bP P e=some m) (hblk:w.heap.size<=Ag)
 (QV:w'.heap[Ag]? =some (.cells cur e (0,0))) (vL:kK U cs cs') (htk:cur.toList.take cs'.length=cs'):
 Rel P w0 (U.put S.n ⟨Ag,0,cur.size,m⟩) (S.new (.cells cs e (.grown []))) w'/\sQ U w (U.put S.n ⟨Ag,0,cur.size,m⟩) w':=by
 refine h.aEN hb _ _ hblk (mN.1 QV).1 (fun U' he hU'=>⟨_,cur,e,(0,0),hU',QV,fun j v hj=>?_,?_⟩) rfl
 ·obtain⟨v',CC,hr⟩:=vL.get hj
  refine⟨v',?_,hr.mono he⟩;have hlt:j<cs'.length:=(cZ.1 CC).1;rw [<-htk,kZ,if_pos hlt]at CC;simpa using CC
 ·exact⟨rD h.base.size hblk,fun x _ hx=>by simp at hx,rfl,hm,rfl⟩
theorem Rel.map' (h:Rel P w0 U S w){r:Nat}{es:List MapEntry}{c:Nat} (ho:S.obj r=some (.map es c)):∃(L:Loc) (iD:Array MapEntry),U r=some L/\w0.heap.size<=L.b/\w.heap[L.b]? =some (.map iD c)/\fN U es iD.toList:=by
 obtain⟨L,iD,h1,h2,h3,h4⟩:=h.DK r _ ho;exact⟨L,iD,h1,h2,h3,h4⟩
theorem aCB{α:Type}{t:Tr α}{n:Nat}{k:α->Bool} (h:nV t n k=true):∃x,t.get n=some x/\k x=true:=by
 rw [lB]at h;split at h
 ·rename_i x hx;exact⟨x,hx,h⟩
 ·cases h
end
structure Ee where
 g:Nat
 vs:List Value
 e:TypeId
 m:Nat
def Rn.laid (n:Nat) (l:List Ee):Rn:=fun i=>if i<n then some ⟨i,0,0,match l.find? (fun x=>x.g==i)with | some x=>x.m | none=>0⟩else none
def St.laid (n:Nat) (l:List Ee):St:=⟨l.foldr (fun x h=>h.put x.g (.cells x.vs x.e .ro)) .leaf,n⟩
def GOk (P:Program) (l:List Ee):Prop:=(l.map (·.g)).Nodup/\∀x∈l,x.g<P.globals.size/\bP P x.e=some x.m/\∀v∈x.vs,bA v=true
def Laid (l:List Ee) (w:World):Prop:=∀x∈l,∃cs t fz,w.heap[x.g]? =some (.cells cs t fz)/\∀(j:Nat) (v:Value),x.vs[j]? =some v->cs[j]? =some v
theorem Laid.below{l:List Ee}{w w':World}{n:Nat} (h:Laid l w) (hb:Below n w w') (hn:∀x∈l,x.g<n):Laid l w':=by
 intro x hx;obtain⟨cs,t,fz,h1,h2⟩:=h x hx;exact⟨cs,t,fz,by rw [hb.block _ (hn x hx)];exact h1,h2⟩
theorem St.Ef{n:Nat}:∀{l:List Ee},(l.map (·.g)).Nodup->∀{i:Nat} {o:gV},(St.laid n l).obj i=some o->∃x∈l,x.g=i/\o= .cells x.vs x.e .ro:=by
 intro l;induction l with
 | nil=>intro _ i o h;cases h
 | cons y l ih=>
  intro hnd i o h;have hnd:=QC.1 (by simpa using hnd:(y.g::l.map (·.g)).Nodup);have h:((St.laid n l).h.put y.g (.cells y.vs y.e .ro)).get i=some o:=h;rw [vB]at h;split at h
  ·rename_i e
   injection h with h;exact⟨y,.head _,e.symm,h.symm⟩
  ·obtain⟨x,hx,h1,h2⟩:=ih hnd.2 h
   exact⟨x,.tail _ hx,h1,h2⟩
theorem Rel.laid{P:Program}{l:List Ee}{w:World} (hg:GOk P l) (hsz:P.globals.size<=w.heap.size) (h:Laid l w):Rel P w (Rn.laid P.globals.size l) (St.laid P.globals.size l) w:=by
 have hr:∀i L,Rn.laid P.globals.size l i=some L->i<P.globals.size/\L.b=i/\L.s=0:=by
  intro i L h;unfold Rn.laid at h;split at h
  ·rename_i hi;injection h with h;subst h;exact⟨hi,rfl,rfl⟩
  ·cases h
 have JT:∀i,i<P.globals.size->∃L,Rn.laid P.globals.size l i=some L/\L.b=i/\L.s=0:=fun i hi=>⟨_,if_pos hi,rfl,rfl⟩;refine⟨JT,fun i o ho=>?_,fun i hi=>?_,fun i o ho=>?_,fun i L hi=>?_,fun i j a b L M KE _ _ _ _ hL hM hb=>?_,fun j vs e olds ho=>?_,⟨rfl,rfl,rfl,bN _,fun _ _=>rfl⟩⟩
 ·obtain⟨x,hx,rfl,rfl⟩:=St.Ef hg.1 ho
  obtain⟨cs,t,fz,h1,h2⟩:=h x hx;obtain⟨hlt,hm,Gx⟩:=hg.2 x hx
  have aDO:l.find? (fun y=>y.g==x.g)=some x:=by
   have:∀(l:List Ee),(l.map (·.g)).Nodup->x∈l->l.find? (fun y=>y.g==x.g)=some x:=by
    intro l;induction l with
    | nil=>intro _ h;cases h
    | cons y l ih=>
     intro hnd hx;have hnd:=QC.1 (by simpa using hnd:(y.g::l.map (·.g)).Nodup);rw [List.find?_cons];rcases cO.1 hx with e | hx
     ·subst e;simp
     ·have:y.g≠x.g:=fun e=>hnd.1 (e▸mA.2 ⟨x,hx,rfl⟩)
      have hb:(y.g==x.g)=false:=by simpa using this
      rw [hb];exact ih hnd.2 hx
   exact this l hg.1 hx
  refine⟨⟨x.g,0,0,x.m⟩,cs,t,fz,by unfold Rn.laid;rw [if_pos hlt,aDO],h1,fun j v hj=>⟨v,by simpa using h2 j v hj,.flat (Gx v (rB hj))⟩,hm⟩
 ·have:P.globals.size<=i:=hi
  unfold Rn.laid;rw [if_neg (by omega)]
 ·obtain⟨x,hx,rfl,_⟩:=St.Ef hg.1 ho
  exact(hg.2 x hx).1
 ·obtain⟨h1,h2,_⟩:=hr i L hi
  omega
 ·obtain⟨_,h2,_⟩:=hr i L hL
  obtain⟨_,h4,_⟩:=hr j M hM;omega
 ·obtain⟨x,_,_,h2⟩:=St.Ef hg.1 ho
  injection h2 with _ _ h2;cases h2
def ME (a b:List Value):Bool:=
 fE (β:=List Value->Bool) (fun b=>match b with | []=>true | _=>false) (fun x _ ih b=>match b with | y::b=>(match YL x y with | true=>ih b | false=>false) | []=>false) a b
theorem kK.aJX{U:Rn}{l:List Value} (h:∀v∈l,iZ v=true):kK U l l:=
 ⟨rfl,fun k v v' a b=>by rw [a]at b;injection b with b;subst b;exact .iZ (h v (rB a))⟩
theorem Eg{U:Rn}:∀{a b b':List Value},(∀v∈a,iZ v=true)->ME a b=true->kK U b b'->b'=a:=by
 intro a;induction a with
 | nil=>
  intro b b' _ h hv;unfold ME at h;rw [rR]at h;split at h
  ·exact hv.iH
  ·cases h
 | cons x a ih=>
  intro b b' hf h hv;unfold ME at h;rw [aO]at h;split at h
  ·rename_i y t
   obtain⟨y',t',rfl,h1,h2⟩:=hv.bU;split at h
   ·rename_i hxy
    rw [ih (fun v hv=>hf v (.tail _ hv)) h h2,<-FK hxy (.iZ (hf x (.head _))) h1]
   ·cases h
  ·cases h
def YT (tbl:List (List Value×Value)) (args:List Value) (S:St) (K:VK):Bool:=
 fE (β:=Bool) false (fun x _ ih=>dF (ME x.1 args) (K x.2 S) ih) tbl
def answers (r v:Value):Bool:=YL r v
def TC (P:Program) (ov:FuncId->Option (List Value->St->VK->Bool)) (most n:Nat) (f:FuncId) (l:List Ee) (x:List Value×Value):Prop:=
 (∀v∈x.1,iZ v=true)/\iZ x.2=true/\(aEd P ov most n).call f x.1 (St.laid P.globals.size l) (fun v _=>answers x.2 v)=true
theorem Be{P:Program}{w0:World}{ov:FuncId->Option (List Value->St->VK->Bool)}{most n:Nat}{f:FuncId}{l:List Ee}{tbl:List (List Value×Value)} (hg:GOk P l) (hsz:P.globals.size<=w0.heap.size) (hl:Laid l w0)
 (hov:∀w,P.globals.size<=w.heap.size->Laid l w->Dq P w ov) (DP:∀(f:FuncId) (fn:Func),P.funcs[f]? =some fn->fn.name≠ "runtime.NumGoroutine") (hm:P.follows .mixedOrders=true)
 (hf:∀args w,(callFunc f args).run P w= .ok (.enter f args) w) (ht:∀x∈tbl,TC P ov most n f l x):
 jA P w0 (fun f' args S K=>match Nat.beq f' f with | true=>YT tbl args S K | false=>false):=by
 intro f' args S K U w dI hk hr ha;dsimp only at hk;split at hk
 ·rename_i hf'
  obtain rfl:f'=f:=by simpa using hf'
  refine⟨hf ⟨dI⟩,?_⟩;have Sh:P.globals.size<=w.heap.size:=rD hsz hr.base.size;have hlw:Laid l w:=hl.below hr.base fun x hx=>BC (hg.2 x hx).1 hsz;revert hk;induction tbl with
  | nil=>intro hk;cases hk
  | cons x tbl ih=>
   intro hk;unfold YT at hk;rw [aO]at hk;cases hs:ME x.1 args with
   | false=>rw [hs]at hk;exact ih (fun y hy=>ht y (.tail _ hy)) hk
   | true=>
    rw [hs]at hk;have hk:K x.2 S=true:=hk;obtain⟨m1,m2,m3⟩:=ht x (.head _);have JV:=Eg m1 hs ha;subst JV;obtain⟨_,JX⟩:=Yd (w0:=w) (hov w Sh hlw) DP hm f' x.1 _ _ _ w x.1 m3 (Rel.laid hg Sh hlw) (kK.aJX m1);refine CallsIn.mono JX ?_
    rintro e w' ⟨v',rfl,U',v,S',hkv,hv,hrel,_⟩
    have CC:x.2=v':=FK hkv (.iZ m2) hv;subst CC;obtain⟨h1,h2⟩:=hr.below hrel.base;exact⟨_,rfl,U,_,S,hk,.iZ m2,h1,h2⟩
 ·cases hk
def BJ (f:FuncId) (g:List Value->St->VK->Bool) (ov:FuncId->Option (List Value->St->VK->Bool)) (f':FuncId):Option (List Value->St->VK->Bool):=dF (Nat.beq f' f) (some g) (ov f')
theorem CW{P:Program}{w0:World}{f:FuncId}{g:List Value->St->VK->Bool}{ov:FuncId->Option (List Value->St->VK->Bool)} (h:jA P w0 (fun f' args S K=>match Nat.beq f' f with | true=>g args S K | false=>false)) (hov:Dq P w0 ov):Dq P w0 (BJ f g ov):=by
 intro f' g' hg;unfold BJ at hg;cases hb:Nat.beq f' f with
 | true=>
  rw [hb]at hg;injection hg with hg;subst hg;obtain rfl:f'=f:=by simpa using hb
  exact h
 | false=>rw [hb]at hg;exact hov f' g' hg
section
variable{E:Env}{w0:World}
end
def rIf (c:Value) (a b:Bool):Bool:=match c with | .bool v=>dF v a b | _=>false
def aJb (c a b:Value) (K:Value->Bool):Bool:=match c with
 | .bool true=>K a
 | .bool false=>K b
 | _=>false
def rLd (a:Value) (S:St) (K:VK):Bool:=match a with
 | .pointer (some ⟨i,o,none⟩)=>uJ S i fun vs _ _=>OK vs o fun v=>K v S
 | _=>false
def aEo (n:Nat) (a:Value) (S:St) (K:VK):Bool:=match a with
 | .pointer (some ⟨i,o,none⟩)=>BS S i o n fun l=>K (.agg ⟨l⟩) S
 | _=>false
def rSt (n:Nat) (a x:Value) (S:St) (k:St->Bool):Bool:=match a with
 | .pointer (some ⟨i,o,none⟩)=>nW x fun cs=>zZ cs fun m=>match Nat.beq m n with
  | true=>oS S i o cs k
  | false=>false
 | _=>false
def WU (zero:List Value) (t:TypeId) (S:St) (K:VK):Bool:=aGS zero fun zero=>sP S (.cells zero t .exact) fun i S=>K (.pointer (some ⟨i,0,none⟩)) S
def MK (parts:List (Nat×Nat×Value)) (cells:List Value) (k:List Value->Bool):Bool:=
 fE (β:=List Value->Bool) (fun cs=>k cs) (fun p _ ih cs=>nW p.2.2 fun new=>zZ new fun m=>match Nat.beq m p.2.1 with
  | true=>qA p.1 new cs ih
  | false=>false) parts cells
def Yr (zero:List Value) (parts:List (Nat×Nat×Value)) (K:Value->Bool):Bool:=MK parts zero fun cs=>K (.agg ⟨cs⟩)
def Mx (elem:TypeId) (n:Nat) (zero:List Value) (parts:List (Nat×Nat×Value)) (S:St) (K:VK):Bool:=
 Qd zero n fun cs=>MK parts cs fun cs=>sP S (.cells cs elem .exact) fun i S=>K (.slice (some ⟨i,0,none⟩) n n) S
def aEp (off:Nat) (x:Value) (K:Value->Bool):Bool:=match x with
 | .pointer (some ⟨b,o,none⟩)=>cG (o+off) fun o=>K (.pointer (some ⟨b,o,none⟩))
 | _=>false
def Em (off:Nat) (x:Value) (K:Value->Bool):Bool:=match x with
 | .agg cs=>OK cs.toList off K
 | _=>false
def TI (off n:Nat) (x:Value) (K:Value->Bool):Bool:=match x with
 | .agg cs=>FB off cs.toList fun l=>LB n l fun l=>K (.agg ⟨l⟩)
 | _=>false
def aHi (size:Nat) (x ix:Value) (K:Value->Bool):Bool:=match ix with
 | .int _ (.ofNat i)=>match x with
  | .slice (some ⟨b,o,sp⟩) len _=>match sp with
   | some (_+1)=>false
   | _=>match Nat.blt i len with
    | true=>cG (o+i*size) fun o=>K (.pointer (some ⟨b,o,none⟩))
    | false=>false
  | _=>false
 | _=>false
def Mr (x ix:Value) (K:Value->Bool):Bool:=match ix with
 | .int _ (.ofNat i)=>match x with
  | .string s=>OK s.data.toList i fun b=>cG b.toNat fun n=>K (.int .u8 (.ofNat n))
  | _=>false
 | _=>false
def aEw (i:Nat) (x:Value) (K:Value->Bool):Bool:=match x with
 | .tuple vs=>OK vs.toList i fun v=>K v
 | _=>false
def aEv (k:IntKind) (x:Value) (K:Value->Bool):Bool:=match x with
 | .int _ n=>GH k n fun v=>K v
 | _=>false
def aBe (x:Value) (K:Value->Bool):Bool:=match x with
 | .slice _ n _=>K (.int .i64 (.ofNat n))
 | _=>false
def Su (x:Value) (K:Value->Bool):Bool:=match x with
 | .string s=>zZ s.data.toList fun n=>K (.int .i64 (.ofNat n))
 | _=>false
def Sv (P:Program) (elem:TypeId) (size bytes:Nat) (s x:Value) (S:St) (K:VK):Bool:=match s with
 | .slice base sLen sCap=>GS x fun n=>match n with
  | 0=>match Nat.ble sLen sCap with | true=>K (.slice base sLen sCap) S | false=>false
  | n'+1=>DF S size (n'+1) x fun new=>cG (sLen+(n'+1)) fun qR=>
   match BR qR bytes with
   | true=>match Nat.ble qR sCap with
    | true=>LH size new base sLen sCap qR S K
    | false=>SC P elem size new base sLen qR S K
   | false=>false
 | _=>false
def aHk (P:Program) (v:Value) (K:Value->Bool):Bool:=match v with
 | .pointer (some a)=>K (.pointer (some a))
 | .func (.func f) a b=>K (.func (.func f) a b)
 | .func (.yield f) a b=>K (.func (.yield f) a b)
 | .func (.method s) ⟨[.iface t w]⟩ ⟨[]⟩=>match DG P t s with
  | some _=>K (.func (.method s) ⟨[.iface t w]⟩ ⟨[]⟩)
  | none=>false
 | .iface t w=>K (.iface t w)
 | _=>false
def aJ4 (call:aAS) (round:Nat->List Value->St->VK->Bool) (f:Value) (args:List Value) (S:St) (K:VK):Bool:=match f with
 | .func (.func g) first captured=>wQ first.toList args fun l=>wQ l captured.toList fun l=>call g l S K
 | .func (.yield l) first captured=>match first.toList,captured.toList with
  | [],[]=>round l args S K
  | _,_=>false
 | _=>false
def aOn (P:Program) (call:aAS) (r:Value) (m:String) (args:List Value) (S:St) (K:VK):Bool:=match r with
 | .iface t v=>match DG P t m with
  | some g=>call g (v::args) S K
  | none=>false
 | _=>false
def YZ (w:Bool) (v:Value) (k:Bool->Bool):Bool:=match v with
 | .bool b=>match b,w with | true,true | false,false=>k true | _,_=>k false
 | _=>k false
def Jh (v u:Value) (k:Bool):Bool:=match JY v u with | true=>k | false=>false
def aBf (P:Program) (as:TypeId) (ok:Bool) (v:Value) (K:Value->Bool):Bool:=match v,P.underlying as with
 | .iface _ _,some (.interface _)=>false
 | .iface t w,some _=>match Nat.beq t as,ok with
  | true,true=>K (.tuple ⟨[w,.bool true]⟩)
  | true,false=>K w
  | false,_=>false
 | _,_=>false
end Go.Am
namespace Go.Am
open Go.RowKit Go.MapKept
def Mt (w:Bool) (v:Value) (op:VK->Bool) (S:St) (k:VK):Bool:=YZ w v fun b=>dF b (op k) (k undef S)
def shut (most:Nat) (b:Bool):Bool:=Nat.rec (motive:=fun _=>Bool->Bool) (fun x=>x) (fun _ _ x=>x) most b
theorem Bh (most:Nat) (b:Bool):shut most b=b:=by cases most<;>rfl
def aMG (u:Value) (k:Bool):Bool:=match u with | .tuple ⟨[]⟩=>k | _=>false
def Mu (w:Bool) (v u:Value) (op:Bool->Bool) (k:Bool):Bool:=YZ w v fun b=>dF b (op k) (aMG u k)
end Go.Am
namespace Go.Am
def aEu (P:Program) (op:BinOp) (t:TypeId) (a b:Value) (K:Value->Bool):Bool:=(aG4 P op).f t a b K
theorem IY (P:Program) (op:BinOp) (t:TypeId) (a b:Value) (K:Value->Bool):aEu P op t a b K=QH P op t a b K:=aA1 P op t a b K
def FN (g:Nat) (b:Bool) (o:Oper):Oper:=match o.guard with
 | some (j,w)=>match Nat.beq j g&&(w==b)with | true=>{o with guard:=none} | false=>o
 | none=>o
def eK (ops:Array Oper) (g:Nat) (b:Bool):Array Oper:=⟨ops.toList.map (FN g b)⟩
theorem wB (g:Nat) (b:Bool) (o:Oper):FN g b o=o\/(FN g b o={o with guard:=none}/\o.guard=some (g,b)):=by
 unfold FN;split
 ·rename_i j w hg
  split
  ·rename_i h
   simp only [bT,beq_iff_eq]at h;have h1:=cV h.1;exact .inr ⟨rfl,by rw [hg,h1,h.2]⟩
  ·exact .inl rfl
 ·exact .inl rfl
theorem Jf (g:Nat) (b:Bool) (o:Oper):(FN g b o).dst=o.dst:=by rcases wB g b o with h | ⟨h,_⟩<;>rw [h]
theorem MG (g:Nat) (b:Bool) (o:Oper):(FN g b o).after=o.after:=by rcases wB g b o with h | ⟨h,_⟩<;>rw [h]
theorem Ej (g:Nat) (b:Bool) (o:Oper):(FN g b o).op=o.op:=by rcases wB g b o with h | ⟨h,_⟩<;>rw [h]
theorem qY (ops:Array Oper) (g:Nat) (b:Bool) (i:Nat):(eK ops g b)[i]? =ops[i]?.map (FN g b):=by
 unfold eK;simp
theorem GJ (ops:Array Oper) (g:Nat) (b:Bool):(eK ops g b).size=ops.size:=by unfold eK;simp
theorem HG (ops:Array Oper) (g:Nat) (b:Bool) (t:Array Value):yielded (eK ops g b) t=yielded ops t:=by
 funext j
 unfold yielded;rw [qY];cases ops[j]? with
 | none=>rfl
 | some o=>simp only [wO,VU,Jf]
theorem MH{ops:Array Oper}{g:Nat}{b:Bool}{j e:Nat}:JZ (eK ops g b) j e↔JZ ops j e:=by
 unfold JZ;rw [qY];cases ops[j]? with
 | none=>simp
 | some o=>
  constructor
  ·rintro⟨o',h,x,hx⟩
   injection h with h;subst h;rw [MG]at hx;exact⟨o,rfl,x,hx⟩
  ·rintro⟨o',h,x,hx⟩
   injection h with h;subst h;exact⟨_,rfl,x,by rw [MG];exact hx⟩
theorem DX{ops:Array Oper}{g:Nat}{b:Bool}{t:Array Bool}{j:Nat}:j∈Region.ready .any (eK ops g b) t↔j∈Region.ready .any ops t:=by
 rw [jO,jO,GJ];simp only [MH]
theorem Ek{ops:Array Oper}{g:Nat}{b:Bool} (h:Plain ops):Plain (eK ops g b):=by
 intro j o ho;rw [qY]at ho;cases hj:ops[j]? with
 | none=>rw [hj]at ho;cases ho
 | some q=>
  rw [hj]at ho;injection ho with ho;subst ho;rw [Ej];exact h j q hj
section
variable{P:Program}{ops:Array Oper}{ro:Option Nat}{Q:Exit->Act->World->Prop}
theorem Yk{j:Nat}{o:Oper} (hj:ops[j]? =some o){I:Array Value->Prop}{a:Act}{w:World} (hI:∀v,I (a.put o.dst v).tmps){K:Act->World->Prop} (h:wpOpIn (JW ro) 0 P ops Q j K a w):wpOpIn (JW ro) 0 P ops Q j (fun a' w'=>I a'.tmps/\K a' w') a w:=by
 have hd:∀d:Deferred,I (({a with defers:=d::a.defers}:Act).put o.dst undef).tmps:=fun d=>by
  have:=hI undef;unfold Act.put at this ⊢;cases hod:o.dst with
  | none=>rw [hod]at this;exact this
  | some d=>rw [hod]at this;exact this
 unfold wpOpIn at*;simp only [hj]at*;split
 ·rename_i hw
  simp only [hw,if_true]at h;unfold Oper.wpIn at*;refine⟨h.1,?_⟩;have h:=h.2;generalize (o.semAt (JW ro).round a.eval).run P w=r at*;cases r with
  | ok x w'=>
   cases x<;>simp only [Oper.uponIn]at h ⊢
   case value=>exact⟨hI _,h⟩
   case skip=>exact⟨hI undef,h⟩
   case defer=>exact⟨hd _,h⟩
   case enter f args=>
    refine⟨h.1,CallsIn.mono h.2 fun e w'' he=>?_⟩;cases e with
    | returned u=>exact⟨hI u,he⟩
    | panicked c=>exact he
    | outgrown=>exact he
   case row row args=>exact⟨h.1,RowsIn.mono h.2 fun u w'' he=>⟨hI u,he⟩⟩
   case round l f tmps assign body=>
    refine⟨h.1,RoundIn.mono h.2 fun e w'' he=>?_⟩;cases e with
    | returned u=>exact⟨hI u,he⟩
    | panicked c=>exact he
    | outgrown=>exact he
  | halt x w'=>
   cases x<;>simp only [Oper.uponIn]at h ⊢
   case panic u=>exact h
 ·rename_i hw
  simp only [hw]at h;exact⟨h.1,hI undef,h.2⟩
theorem aEl{g:Nat}{b:Bool}{o:Oper}{K:Act->World->Prop}{a:Act}{w:World} (h:(FN g b o).wpIn (JW ro) 0 P a w K Q):o.wpIn (JW ro) 0 P a w K Q:=by
 rcases wB g b o with e | ⟨e,_⟩
 ·rw [e]at h;exact h
 ·rw [e]at h;exact h
theorem Ym{g:Nat}{b:Bool}{j:Nat}{K:Act->World->Prop}{a:Act}{w:World} (hg:yielded ops a.tmps g=some b) (h:wpOpIn (JW ro) 0 P (eK ops g b) Q j K a w):wpOpIn (JW ro) 0 P ops Q j K a w:=by
 unfold wpOpIn at*;rw [qY,HG]at h;cases hj:ops[j]? with
 | none=>rw [hj]at h;exact h
 | some o=>
  rw [hj]at h;simp only [wO]at h ⊢;rcases wB g b o with e | ⟨e,hgd⟩
  ·rw [e]at h;exact h
  ·have h1:Region.wanted (FN g b o) (yielded ops a.tmps)=true:=by rw [e];rfl
   have h2:Region.wanted o (yielded ops a.tmps)=true:=by
    unfold Region.wanted;rw [hgd];simp [hg]
   rw [if_pos h1]at h;rw [if_pos h2];exact aEl h
def Jg (ops:Array Oper) (g:Nat) (t:Tmp) (L:Array Bool):Prop:=(∃o,ops[g]? =some o/\o.dst=some t)/\∀j o,ops[j]? =some o->¬On L j->j<L.size->o.dst≠some t
theorem Jg.mono{g:Nat}{t:Tmp}{L:Array Bool}{i:Nat} (h:Jg ops g t L) (hi:i<L.size):Jg ops g t (L.setIfInBounds i true):=⟨h.1,fun j o ho hn hl=>h.2 j o ho (fun c=>hn ((On.set hi).2 (.inl c))) (by simpa using hl)⟩
theorem Yl.res{g i:Nat}{b:Bool}{v:Value}{a:Act}{w:World} (hg:yielded ops a.tmps g=some b):Yl P (eK ops g b) i v a w↔Yl P ops i v a w:=by
 unfold Yl;rw [qY,HG];cases ops[i]? with
 | none=>simp
 | some o=>
  rcases wB g b o with e | ⟨e,hgd⟩
  ·simp only [wO,e]
  ·have h1:Region.wanted (FN g b o) (yielded ops a.tmps)=true:=by rw [e];rfl
   have h2:Region.wanted o (yielded ops a.tmps)=true:=by
    unfold Region.wanted;rw [hgd];simp [hg]
   have h3:execOp a.eval (FN g b o)=execOp a.eval o:=by rw [e];rfl
   constructor
   ·rintro⟨q,hq,h⟩
    simp only [wO]at hq;injection hq with hq;subst hq;rw [h1,h3]at h;exact⟨o,rfl,by rw [h2];exact h⟩
   ·rintro⟨q,hq,h⟩
    injection hq with hq;subst hq;rw [h2]at h;exact⟨_,rfl,by rw [h1,h3];exact h⟩
theorem aHh{g j i:Nat}{b:Bool}:dep (eK ops g b) j i=dep ops j i:=by
 unfold dep;rw [qY];cases ops[j]? with
 | none=>rfl
 | some o=>simp only [wO,MG]
theorem wY.res{g:Nat}{b:Bool}{t:Tmp}:∀{f:Nat} {J:List (Nat×Value)} {L:Array Bool} {a:Act} {w:World},Jg ops g t L->yielded ops a.tmps g=some b->wY ro P (eK ops g b) Q f J L a w->wY ro P ops Q f J L a w:=by
 have hr:∀{L:Array Bool},Region.ready .any (eK ops g b) L=[]↔Region.ready .any ops L=[]:=fun {L}=>by
  rw [List.eq_nil_iff_forall_not_mem,List.eq_nil_iff_forall_not_mem];exact⟨fun h j hj=>h j (DX.2 hj),fun h j hj=>h j (DX.1 hj)⟩
 intro f;induction f with
 | zero=>intro J L a w hs hg h;exact⟨fun p hp=>(Yl.res hg).1 (h.1 p hp),hr.1 h.2.1,h.2.2⟩
 | succ f ih=>
  intro J L a w hs hg h;refine⟨fun p hp=>(Yl.res hg).1 (h.1 p hp),fun e=>h.2.1 (hr.2 e),fun j hj=>?_⟩;have h1:=Ym hg (h.2.2 j (DX.2 hj));obtain⟨⟨hlt,CH⟩,hjs,_⟩:=jO.1 hj;have ho:ops[j]? =some ops[j]:=VG hjs;have uR:=hs.2 j _ ho CH hlt
  have h2:=Yk (I:=fun t=>yielded ops t g=some b) ho (fun v=>by
   obtain⟨o,hog,hot⟩:=hs.1;unfold yielded at hg ⊢;rw [hog]at hg ⊢;simp only [VU,hot]at hg ⊢
   have:(a.put ops[j].dst v).tmps[t]? =a.tmps[t]? :=by
    unfold Act.put;cases hd:ops[j].dst with
    | none=>rfl
    | some d=>
     have hdt:d≠t:=fun c=>uR (by rw [hd,c]);simp [Wq hdt]
   rw [this];exact hg) h1
  refine wpOpIn_mono (fun a' w' hk=>?_) h2;simp only [aHh]at hk;exact ih (hs.mono hlt) hk.1 hk.2
theorem Kn.res{g:Nat}{b:Bool}{a:Act}{w:World}{p:Nat×Value} (hg:yielded ops a.tmps g=some b) (h:Kn P ops a w p):Kn P (eK ops g b) a w p:=by
 have pu:∀o,oU P (FN g b o)=oU P o:=fun o=>by unfold oU;rw [Ej]
 have lo:∀o,wZ (FN g b o)=wZ o:=fun o=>by unfold wZ;rw [Ej]
 rcases h with ⟨o,h1,h2,h3⟩ | ⟨o,d,h1,h2,h3,h4,h5⟩
 ·exact .inl ⟨_,by rw [qY,h1];rfl,by rw [pu];exact h2,fun w=>(Yl.res hg).2 (h3 w)⟩
 ·exact .inr ⟨_,d,by rw [qY,h1];rfl,by rw [lo];exact h2,(Yl.res hg).2 h3,by rw [Jf];exact h4,h5⟩
end
section
variable{E:Env}{w0:World}{ops:Array Oper}
theorem Inv.cut{U0:Rn}{wa:World}{L:Array Bool}{taken:List Nat}{m:Nat}{L':Array Bool}{X:List (Nat×Option Nat)}{J:List (Nat×Value)}{U:Rn}{A:aM}{a:Act}{S:St}{w:World}{c:Array Bool×List Nat}{g:Nat}{b:Bool}
 (h:Inv E w0 ops U0 wa L taken m L' X J U A a S w) (hc:DU E.P ops ops.size L []=c) (hc2:c.2=[]) (CH:∀i∈Region.ready .any ops c.1,kM E.P ops i=false) (hgb:∀j,On L j->BH E.P (eK ops g b) j=false) (hg:yielded ops a.tmps g=some b):
 Inv E w0 (eK ops g b) U0 wa L taken m L' [] J U A a S w:=by
 obtain⟨mm,h1,h2,h3,h4,h5,h6⟩:=wA _ _ _ hc
 have e2:mm=[]:=by have:c.2=mm:=by rw [h1];rfl
                   rw [<-this];exact hc2
 subst e2
 have hX:X=[]:=by
  cases X with
  | nil=>rfl
  | cons p X=>
   have JT:On c.1 p.1:=Sc h.szL hc CH _ [] h.xr (by simp) (fun i hi=>by
    rw [PX,mA]at hi;obtain⟨p,hp,rfl⟩:=hi;exact⟨(h.xl p hp).2.1,TA (h.xl p hp).2.1⟩) p.1 (by rw [PX,mA];exact⟨p,.head _,rfl⟩)
   rcases(h3 p.1).1 JT with q | q
   ·exact absurd q (h.xl p (.head _)).2.2
   ·cases q
 subst hX;exact⟨h.hs,h.stp,by rw [GJ];exact h.szL,by rw [GJ];exact h.sz,h.on,fun j hj e he=>h.down j hj e (MH.1 he),by simp,by simp,by simp,by simp,by simp,hgb,fun p hp=>⟨(h.jf p hp).1,Kn.res hg (h.jf p hp).2⟩,h.fuel,trivial,by simp⟩
end
abbrev aJ2:=Nat×Bool×Array Bool×List Nat
def PL (P:Program) (ops:Array Oper):Nat->List Nat->Array Bool->List Nat->Option (List uC×Option aJ2)
 | 0,_,_,_=>none
 | f+1,i::is,listed,taken=>match ops[i]? with
  | some o=>match neutral P o&&FL ops listed i with
   | true=>match Sn ops listed i&&yT ops o&&taken.all (leaves ops o)&&(oU P o || iI ops i)with
    | true=>WQ (listed.setIfInBounds i true) fun t=>(PL P ops f is t (i::taken)).map fun p=>(.take i::p.1,p.2)
    | false=>PL P ops f is listed taken
   | false=>PL P ops f is listed taken
  | none=>none
 | f+1,[],listed,taken=>
  WR P ops (List.range ops.size) listed [] fun c1 c2=>
  let lV:=c2.map fun d=>(d,rH P ops c2 d)
  let vS:=match c2 with | []=>[] | _=>taken.filter (iI ops)
  match c2.all fun d=>xB ops d&&(match ops[d]? with | some o=>yT ops o&&(taken.filter fun p=> !dep ops d p).all (leaves ops o) | none=>false)with
  | true=>match Region.ready .any ops c1 with
   | []=>some ([.fin vS lV (c2.filter fun i=> !BH P ops i)],none)
   | [r]=>match ops[r]? with
    | some o=>
     let D:=rH P ops c2 r
     let oW:=taken.filter fun p=> !dep ops r p&&D.all fun d=> !dep ops d p
     match oW.all (leaves ops o)&& !kM P ops r with
     | true=>WQ ((D.foldl (fun t i=>t.setIfInBounds i true) listed).setIfInBounds r true) fun t=>(PL P ops f (List.range ops.size) t oW).map fun p=>(.Ja vS lV D r (oW.filter (iI ops))::p.1,p.2)
     | false=>none
    | none=>none
   | r::_=>match(ops[r]?).bind (·.guard)with
    | some (g,b)=>some ([],some (g,b,listed,taken))
    | none=>none
  | false=>none
def aEm (P:Program) (ops:Array Oper) (g:Nat) (t:Tmp) (b:Bool) (L:Array Bool):Bool:=
 (match ops[g]? with | some o=>o.dst==some t | none=>false)&&((List.range ops.size).all (fun j=>L.getD j false || (match ops[j]? with | some o=>o.dst != some t | none=>true))&&((match DU P ops ops.size L []with | (c1,[])=>(Region.ready .any ops c1).all fun i=> !kM P ops i | _=>false)&&(List.range ops.size).all fun j=> !L.getD j false || !BH P (eK ops g b) j))
inductive MI where
 | fin (l:List uC)
 | cut (l:List uC) (g:Nat) (t:Tmp) (b:Bool) (r:MI)
def TF (P:Program):Nat->Array Oper->Array Bool->List Nat->Option MI
 | 0,_,_,_=>none
 | f+1,ops,L,taken=>match PL P ops ((ops.size+1)*(ops.size+2)) (List.range ops.size) L taken with
  | some (l,none)=>some (.fin l)
  | some (l,some (g,b,L1,t1))=>match(ops[g]?).bind (·.dst)with
   | some t=>match aEm P ops g t b L1 with
    | true=>(TF P f (eK ops g b) L1 t1).map (.cut l g t b)
    | false=>none
   | none=>none
  | none=>none
def Mo:MI->List Nat
 | .fin l=>GZ l
 | .cut l _ _ _ r=>GZ l++Mo r
def tV (E:Env) (ops:Array Oper) (l:List uC) (A:aM) (S:St) (k:aM->St->Bool):Bool:=
 fE (β:=aM->St->Bool) (fun A S=>k A S) (fun s _ ih A S=>match s with
  | .take i=>match ops[i]? with
   | some o=>QJ E ops o A S ih
   | none=>false
  | .Ja vS lV D r yV=>match ops[r]? with
   | some o=>uL E ops A S vS (KI E ops A S lV (mK E ops D A S fun A S=>QJ E ops o A S fun A S=>uL E ops A S yV (ih A S)))
   | none=>false
  | .fin _ _ _=>false) l A S
def TG (A:aM) (t:Tmp) (b:Bool) (k:Bool):Bool:=NO A.tmps t fun v=>match v with
 | .bool b'=>match b,b' with | true,true=>k | false,false=>k | _,_=>false
 | _=>false
def MJ (E:Env):MI->Array Oper->aM->St->(aM->St->Bool)->Bool
 | .fin l,ops,A,S,k=>lC E ops l A S k
 | .cut l g t b r,ops,A,S,k=>tV E ops l A S fun A S=>TG A t b (MJ E r (eK ops g b) A S k)
def YX (E:Env) (ops:Array Oper) (cut:Option aJ2) (steps:List uC) (A:aM) (S:St) (k kc:aM->St->Bool):Bool:=match cut with | none=>lC E ops steps A S k | some _=>tV E ops steps A S kc
section
variable{E:Env}{w0:World}
theorem YY (hc:jA E.P w0 E.call) (hr:mJ E.P w0 E.round){ops:Array Oper} (rP:Plain ops){ro:Option Nat}{Q:Exit->Act->World->Prop} (hQp:∀c a w,¬Q (.panic c) a w){k:aM->St->Bool}{U0:Rn}{wa:World} (VD:w0.heap.size<=wa.heap.size)
 (hQ:∀a' w',Next E.P w0 U0 wa k a' w'->Q .normal a' w') {cut:Option aJ2} {kc:aM->St->Bool}
 (aOl:∀g b L1 t1,cut=some (g,b,L1,t1)->∀{m:Nat} {L':Array Bool} {X:List (Nat×Option Nat)} {J:List (Nat×Value)} {U:Rn} {A:aM} {a:Act} {S:St} {w:World},kc A S=true->Inv E w0 ops U0 wa L1 t1 m L' X J U A a S w->wY ro E.P ops Q m J L' a w):
 ∀(f:Nat) (is:List Nat) (L:Array Bool) (taken:List Nat) (steps:List uC),PL E.P ops f is L taken=some (steps,cut)->
 ∀{m:Nat} {L':Array Bool} {X:List (Nat×Option Nat)} {J:List (Nat×Value)} {U:Rn} {A:aM} {a:Act} {S:St} {w:World},YX E ops cut steps A S k kc=true->Inv E w0 ops U0 wa L taken m L' X J U A a S w->wY ro E.P ops Q m J L' a w:=by
 intro f;induction f with
 | zero=>intro is L taken steps hp;cases hp
 | succ f ih=>
  intro is L taken steps hp m L' X J U A a S w hk h;cases is with
  | cons i is=>
   unfold PL at hp;simp only [HB]at hp;split at hp
   ·rename_i o ho
    split at hp
    ·rename_i QU
     rw [bT]at QU;obtain⟨QU,hrd⟩:=QU;have aEb:=MB.1 hrd;split at hp
     ·rename_i Mh
      simp only [bT]at Mh;obtain⟨⟨⟨BT,FJ⟩,oV⟩,pS⟩:=Mh;cases tG:PL E.P ops f is (L.setIfInBounds i true) (i::taken)with
      | none=>rw [tG]at hp;cases hp
      | some rest=>
       obtain⟨rest,aEn⟩:=rest;rw [tG]at hp;simp only [wO]at hp;injection hp with hp;injection hp with hp1 hp2;subst hp1 hp2
       have tT:QJ E ops o A S (fun A S=>YX E ops aEn rest A S k kc)=true:=by
        cases aEn with
        | none=>
         unfold YX at hk ⊢;simp only at hk ⊢;unfold lC at hk;rw [aO]at hk;simp only [ho]at hk;exact hk
        | some q=>
         unfold YX at hk ⊢;simp only at hk ⊢;unfold tV at hk;rw [aO]at hk;simp only [ho]at hk;exact hk
       exact Inv.Sa hQp rP VD ho aEb QU (Ei BT) FJ oV pS tT (fun tT h'=>ih _ _ _ _ tG tT h') h
     ·exact ih _ _ _ _ hp hk h
    ·exact ih _ _ _ _ hp hk h
   ·cases hp
  | nil=>
   unfold PL at hp;rw [Jd]at hp;simp only [HB]at hp;generalize ZX:DU E.P ops ops.size L []=c at hp;have aOm:DT E.P ops (List.range ops.size) L []=c:=ZX;simp only [aOm]at hp;split at hp
   ·rename_i YR
    split at hp
    ·rename_i qE
     injection hp with hp;injection hp with hp1 hp2;subst hp1 hp2;unfold YX at hk;simp only at hk;unfold lC at hk;rw [aO]at hk;simp only at hk;obtain⟨HA,hk⟩:=Mj h.hs ZX YR hk;exact Inv.aBa rP VD HA qE hk hQ m h
    ·rename_i r qE
     split at hp
     ·rename_i o ho
      split at hp
      ·rename_i oV
       simp only [bT,uI]at oV;obtain⟨oV,IC⟩:=oV;generalize tG:PL E.P ops f _ _ _=rest at hp;cases rest with
       | none=>cases hp
       | some rest=>
        obtain⟨rest,aEn⟩:=rest;simp only [wO]at hp;injection hp with hp;injection hp with hp1 hp2;subst hp1 hp2
        have tT:uL E ops A S (match c.2 with | []=>[] | _=>taken.filter (iI ops)) (KI E ops A S (c.2.map fun d=>(d,rH E.P ops c.2 d)) (mK E ops (rH E.P ops c.2 r) A S fun A S=>QJ E ops o A S fun A S=>uL E ops A S ((taken.filter fun p=> !dep ops r p&&(rH E.P ops c.2 r).all fun d=> !dep ops d p).filter (iI ops)) ((fun A S=>YX E ops aEn rest A S k kc) A S)))=true:=by
         cases aEn with
         | none=>
          unfold YX at hk ⊢;simp only at hk ⊢;unfold lC at hk;rw [aO]at hk;simp only [ho]at hk;exact hk
         | some q=>
          unfold YX at hk ⊢;simp only at hk ⊢;unfold tV at hk;rw [aO]at hk;simp only [ho]at hk;exact hk
        obtain⟨HA,hk⟩:=Mj h.hs ZX YR tT;exact Inv.aA9 hc hr rP VD HA ho qE IC rfl rfl oV hk (fun tT h'=>ih _ _ _ _ tG tT h') m h
      ·cases hp
     ·cases hp
    ·split at hp
     ·injection hp with hp
      injection hp with hp1 hp2;subst hp1 hp2;exact aOl _ _ _ _ rfl hk h
     ·cases hp
   ·cases hp
theorem Yn{P:Program}{ops:Array Oper}{g:Nat}{t:Tmp}{b:Bool}{L:Array Bool} (h:aEm P ops g t b L=true) (hsz:L.size=ops.size):
 Jg ops g t L/\(∃c,DU P ops ops.size L []=c/\c.2=[]/\∀i∈Region.ready .any ops c.1,kM P ops i=false)/\∀j,On L j->BH P (eK ops g b) j=false:=by
 unfold aEm at h;simp only [bT]at h;obtain⟨h1,h2,h3,h4⟩:=h;refine⟨⟨?_,fun j o ho hn hl c=>?_⟩,?_,fun j hj=>?_⟩
 ·split at h1
  ·rename_i o ho;exact⟨o,ho,by simpa using h1⟩
  ·cases h1
 ·have:=dL.1 h2 j (LA.2 (by omega))
  rw [ho]at this;simp only [KZ,bne_iff_ne,ne_eq]at this;rcases this with q | q
  ·exact hn q
  ·exact q c
 ·split at h3
  ·rename_i c1 ZX
   exact⟨_,ZX,rfl,fun i hi=>by have:=dL.1 h3 i hi;simpa using this⟩
  ·cases h3
 ·have:=dL.1 h4 j (LA.2 (by have:=hj.lt;omega))
  simp only [KZ,uI]at this;rcases this with q | q
  ·have YH:L.getD j false=true:=hj
   rw [q]at YH;cases YH
  ·exact q
theorem Yo{A:aM}{t:Tmp}{b k:Bool} (h:TG A t b k=true):A.tmps.t.get t=some (.bool b)/\k=true:=by
 unfold TG at h;obtain⟨x,hx,h⟩:=AD h;split at h
 ·rename_i b'
  cases b<;>cases b'<;>first | exact⟨hx,h⟩ | cases h
 ·cases h
theorem Sp (hc:jA E.P w0 E.call) (hr:mJ E.P w0 E.round){ro:Option Nat}{Q:Exit->Act->World->Prop} (hQp:∀c a w,¬Q (.panic c) a w){k:aM->St->Bool}{U0:Rn}{wa:World} (VD:w0.heap.size<=wa.heap.size)
 (hQ:∀a' w',Next E.P w0 U0 wa k a' w'->Q .normal a' w'):∀(f:Nat) (ops:Array Oper) (L:Array Bool) (taken:List Nat) (p:MI),Plain ops->TF E.P f ops L taken=some p->
 ∀{m:Nat} {L':Array Bool} {X:List (Nat×Option Nat)} {J:List (Nat×Value)} {U:Rn} {A:aM} {a:Act} {S:St} {w:World},MJ E p ops A S k=true->Inv E w0 ops U0 wa L taken m L' X J U A a S w->wY ro E.P ops Q m J L' a w:=by
 intro f;induction f with
 | zero=>intro ops L taken p _ hp;cases hp
 | succ f ih=>
  intro ops L taken p rP hp m L' X J U A a S w hk h;unfold TF at hp;split at hp
  ·rename_i l hl
   injection hp with hp;subst hp;exact YY hc hr rP hQp VD hQ (kc:=fun _ _=>false) (fun g b L1 t1 e=>by cases e) _ _ _ _ _ hl hk h
  ·rename_i l g b L1 t1 hl
   split at hp
   ·rename_i t ht
    split at hp
    ·rename_i YR
     cases tG:TF E.P f (eK ops g b) L1 t1 with
     | none=>rw [tG]at hp;cases hp
     | some r=>
      rw [tG]at hp;injection hp with hp;subst hp;refine YY hc hr rP hQp VD hQ (kc:=fun A S=>TG A t b (MJ E r (eK ops g b) A S k)) (fun g' b' L1' t1' e=>?_) _ _ _ _ _ hl hk h;injection e with e;injection e with e1 e;injection e with e2 e;injection e with e3 e4;subst e1 e2 e3 e4;intro m L' X J U A a S w hk h;obtain⟨Ab,hk⟩:=Yo hk;obtain⟨Wj,⟨c,ZX,hc2,CH⟩,hgb⟩:=Yn YR h.szL;obtain⟨x',YE,hv⟩:=h.hs.act.tmps.get Ab;have hx:x'= .bool b:=by cases hv;rfl
      have hy:yielded ops a.tmps g=some b:=by
       obtain⟨o,hog,hot⟩:=Wj.1;unfold yielded;rw [hog];simp only [VU,hot];have:a.tmps[t]? =some x':=by rw [<-YE];simp
       rw [this,hx]
      have h2:=ih (eK ops g b) L1 t1 r (Ek rP) tG hk (h.cut ZX hc2 CH hgb hy);have aD2:Jg ops g t L':=⟨Wj.1,fun j o ho hn hl=>Wj.2 j o ho (fun q=>hn ((h.on j).2 (.inl q))) (by rw [h.szL];rw [h.sz]at hl;exact hl)⟩;exact wY.res aD2 hy h2
    ·cases hp
   ·cases hp
  ·cases hp
def drG (E:Env) (ops:Array Oper) (A:aM) (S:St) (k:aM->St->Bool):Bool:=
 match TB E.P ops with
 | some l=>MA ops (GZ l) A fun A=>lC E ops l A S k
 | none=>match DR ops with
  | true=>match TF E.P (ops.size+1) ops ⟨List.replicate ops.size false⟩ []with
   | some p=>MA ops (Mo p) A fun A=>MJ E p ops A S k
   | none=>false
  | false=>false
theorem aJ3 (hc:jA E.P w0 E.call) (hr:mJ E.P w0 E.round) (hm:E.P.follows .mixedOrders=true):aB8 E w0 (drG E):=by
 intro ops A S k U a w ro id Q hk hs hQ;unfold drG at hk;split at hk
 ·rename_i l hl
  exact aEe hc hr hm ops A S k U a w ro id Q (by unfold YS;rw [hl];exact hk) hs hQ
 ·split at hk
  ·rename_i Yj
   split at hk
   ·rename_i p hp
    have rP:=PI Yj;obtain⟨A',hk,hA',hmk⟩:=Dz hs.act hk
    let Q0:Exit->Act->World->Prop:=fun e a' w'=>e= .normal/\Next E.P w0 U w k a' w'
    have CH:∀j,¬On (⟨List.replicate ops.size false⟩:Array Bool) j:=fun j h=>by
     unfold On at h;rcases yL j ops.size with h' | h'
     ·simp [h']at h
     ·simp [h']at h
    have aJ1:rem (⟨List.replicate ops.size false⟩:Array Bool)<=ops.size:=by
     unfold rem;refine rD (List.countP_le_length) ?_;simp
    have h:=Sp hc hr (ro:=ro) (Q:=Q0) (fun c a w h=>by cases h.1) (U0:=U) (wa:=w) hs.rel.base.size (fun a' w' h=>⟨rfl,h⟩) _ _ _ _ p rP hp (m:=ops.size) (X:=[]) (J:=[]) hk
     ⟨⟨hA',hs.rel.drew,by rw [hmk];exact hs.marks⟩,sQ.drew U w,by simp,by simp,fun j=>by simp,fun j h=>absurd h (CH j),by simp,by simp,by simp,by simp,by simp,fun j h=>absurd h (CH j),by simp,aJ1,trivial,by simp⟩
    exact wpIn_mono (wpIn_region_any hm h.any) fun e a' w' hq=>by obtain⟨rfl,hn⟩:=hq;exact hQ a' w' hn
   ·cases hk
  ·cases hk
end
end Go.Am
