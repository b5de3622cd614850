/- AM: operations one behind the other; calls. -/
import Derived.Test.YtpcfidjmdfhigaaGreatDoorGa
import Derived.TacticsIn
import Derived.RangeFuncLeaves
import Derived.Scope
import Derived.OrdersIn

noncomputable section
set_option maxRecDepth 100000
set_option linter.unusedVariables false
namespace Go.Am
open Go.RowKit Go.MapKept
def VD (ro:Option Nat):Fence:={fn:=fun _=>True,depth:=none,alive:=false,round:=ro}
section
variable (P:Program) (w0:World)
def Good (U:Rn) (w:World) (K:VK) (v':Value) (w':World):Prop:=∃U' v S',K v S'=true/\VR U' v v'/\Rel P w0 U' S' w'/\xZ U w U' w'
def aGG (U:Rn) (w:World) (K:VK) (e:Ending) (w':World):Prop:=∃v',e= .returned v'/\Good P w0 U w K v' w'
def lG (call:aEZ):Prop:=∀(f:FuncId) (args:List Value) (S:St) (K:VK) (U:Rn) (w:World) (eX:List Value),call f args S K=true->Rel P w0 U S w->lZ U args eX->
 (∀w,(callFunc f ⟨eX⟩).run P w= .ok (.enter f ⟨eX⟩) w)/\CallsIn (VD none) 0 P f ⟨eX⟩ w (aGG P w0 U w K)
def oG (round:Nat->List Value->St->VK->Bool):Prop:=∀(l:Nat) (args:List Value) (S:St) (K:VK) (U:Rn) (w:World) (eX:List Value) (L:Loc),round l args S K=true->Rel P w0 U S w->lZ U args eX->U l=some L->
 ∃f tmps assign body,(Instr.yield L.b ⟨eX⟩).run P w= .ok (.round L.b f tmps assign body) w/\RoundIn (VD none) 0 P L.b f tmps assign body w (aGG P w0 U w K)
def aOg (L:Loc):Deferred:={target:= .collected L.b,args:= #[]}
def Yq (U:Rn) (marks:List Nat) (ds:List Deferred):Prop:=ds.length=marks.length/\∀(k d:Nat),marks[k]? =some d->∃L,U d=some L/\ds[k]? =some (aOg L)
structure SR (U:Rn) (A:bA) (a:Act) (S:St) (w:World):Prop where
 act:BR P U A a
 rel:Rel P w0 U S w
 marks:Yq U A.marks a.defers
end
theorem Yq.mono{U U':Rn} (he:Ext U U'){m:List Nat}{d:List Deferred} (h:Yq U m d):Yq U' m d:=⟨h.1,fun k x hx=>let⟨L,a,b⟩:=h.2 k x hx;⟨L,he _ _ a,b⟩⟩
section
variable{E:Env}{w0:World}{U:Rn}{S:St}{w:World}{ro:Option Nat}
def Next (P:Program) (w0:World) (U:Rn) (w:World) (k:bA->St->Bool) (a':Act) (w':World):Prop:=∃U' A' S',k A' S'=true/\SR P w0 U' A' a' S' w'/\xZ U w U' w'
theorem Next.trans{P:Program}{U1:Rn}{w1:World}{k:bA->St->Bool}{a':Act}{w':World} (s:xZ U w U1 w1) (h:Next P w0 U1 w1 k a' w'):Next P w0 U w k a' w':=
 let⟨U',A',S',h1,h2,h3⟩:=h;⟨U',A',S',h1,h2,s.trans h3⟩
theorem WQ{P:Program}{A:bA}{a:Act}{d:Option Tmp}{k:bA->St->Bool} (hs:SR P w0 U A a S w){v':Value}{w':World} (h:Good P w0 U w (fun v S=>mV A d v fun A=>k A S) v' w'):Next P w0 U w k (a.put d v') w':=by
 obtain⟨U',v,S',hk,hv,hr,WR⟩:=h;obtain⟨A',hk,hA',hm⟩:=aBj (hs.act.mono WR.ext) hv hk;refine⟨U',A',S',hk,⟨hA',hr,?_⟩,WR⟩;rw [hm];have:(a.put d v').defers=a.defers:=by cases d<;>rfl
 rw [this];exact hs.marks.mono WR.ext
def aIj:Value->Option Bool
 | .bool b=>some b
 | _=>none
theorem Pn{ops:Array Oper}{tmps:Array Value}{j:Nat}{o:Oper}{d:Tmp}{v:Value} (h1:ops[j]? =some o) (h2:o.dst=some d) (h3:tmps[d]? =some v):yielded ops tmps j=aIj v:=by
 unfold yielded;rw [h1];simp only [Hw,h2,h3];cases v<;>rfl
theorem SM{ops:Array Oper}{o:Oper}{A:bA}{a:Act} (hA:BR E.P U A a){k:Bool->Bool} (hk:DO ops o A k=true):k (Region.wanted o (yielded ops a.tmps))=true:=by
 unfold DO at hk;unfold Region.wanted;cases hg:o.guard with
 | none=>rw [hg]at hk;exact hk
 | some jw=>
  obtain⟨j,want⟩:=jw;rw [hg]at hk;simp only at hk ⊢;split at hk
  ·rename_i o' WS
   split at hk
   ·rename_i d hd
    obtain⟨v,hv,hk⟩:=HU hk;obtain⟨v',PY,hr⟩:=hA.tmps.get hv;have hv2:a.tmps[d]? =some v':=by rw [<-PY];simp
    have hy:=Pn WS hd hv2;rw [hy];split at hk
    ·rename_i b
     have e:=hr.of_flat rfl;rw [e];cases b<;>cases want<;>exact hk
    ·rename_i hnb
     have hb:aIj v'=none:=by
      cases v' with
      | bool b=>cases hr with | flat _=>exact aX rfl (hnb b)
      | _=>rfl
     rw [hb];exact hk
   ·rename_i hd
    have hy:yielded ops a.tmps j=none:=by unfold yielded;rw [WS];simp [hd]
    rw [hy];exact hk
  ·rename_i WS
   have hy:yielded ops a.tmps j=none:=by unfold yielded;rw [WS];simp
   rw [hy];exact hk
theorem Po (o:Oper) (P:Program) (w:World) (U:Operand->Value):∀f,o.about P w U=some f->(VD ro).fn f:=fun _ _=>trivial
theorem WT{P:Program}{n:Nat}{f:FuncId}{args:Array Value}{R:Ending->World->Prop} (h:CallsIn (VD none) n P f args w R):CallsIn (VD ro) n P f args w R:=h
theorem aBk{P:Program}{n l:Nat}{f:FuncId}{tmps:Array Value}{as bo:Code}{R:Ending->World->Prop} (h:RoundIn (VD none) n P l f tmps as bo w R):RoundIn (VD ro) n P l f tmps as bo w R:=h
theorem aDn{P:Program}{t:TypeId}{name:String}{g:FuncId} (h:KX P t name=some g) (x:Value) (args:Array Value) (w:World):(callMethod (.iface t x) name args).run P w=(callFunc g (#[x]++args)).run P w:=by
 unfold KX at h;split at h
 ·rename_i info d hi hd
  split at h
  ·rename_i m hm
   split at h
   ·rename_i g' pr hp hf
    have hp:m.path= #[]:=jF.1 (by simpa using hp);have aIi:P.types.size+Made.depth=(P.types.size+99)+1:=rfl
    have aLO:(receiverAt t (.val x) pr (if m.path.isEmpty then some ((name.splitOn ".").getLastD name)else none)).run P w= .ok x w/\g'=g:=by
     unfold receiverAt;split at h
     ·injection h with h;subst h
      simp [run_underlying hd,Place.get]
     ·cases h
     ·rename_i xP
      injection h with h;subst h;refine⟨?_,rfl⟩;simp only [cR,run_underlying hd,eL];cases d<;>first | rfl | (exact aX rfl (xP _))
     ·cases h
    obtain⟨aLO,rfl⟩:=aLO
    have aQu:(method (P.types.size+Made.depth) t x name).run P w= .ok (g',x) w:=by
     rw [aIi];unfold method;simp only [cR,Ap hi,eL,hm,hp];unfold follow;simp only [kR,eL,hf];rw [hp]at aLO;simp only [cR,aLO,eL,kR]
    simp only [callMethod,cR,run_program,eL,aQu]
   ·cases h
  ·cases h
 ·cases h
theorem aIk (hc:lG E.P w0 E.call) (hr:oG E.P w0 E.round) (h:Rel E.P w0 U S w){A:bA}{a:Act} (hA:BR E.P U A a){o:Oper}{K:VK} (hk:AN E o A S K=true){next:Act->World->Prop}{Q:Exit->Act->World->Prop}
 (hn:∀v' w',Good E.P w0 U w K v' w'->next (a.put o.dst v') w'):o.wpIn (VD ro) 0 E.P a w next Q:=by
 refine⟨Po o _ _ _,?_⟩;by_cases hq:Quiet o
 ·obtain⟨r,U',v,S',v',w',h1,h2,h3,h4,h5,h6⟩:=aGF h hA hq hk
  have xP:∀c,o.op≠ .defer c:=fun c e=>by unfold AN at hk;rw [e]at hk;cases hk
  rw [Oper.semAt_eq _ _ _ xP,h2];rcases h3 with rfl | ⟨rfl,rfl⟩
  ·exact hn v' w' ⟨U',v,S',h1,h4,h5,h6⟩
  ·exact hn undef w' ⟨U',v,S',h1,h4,h5,h6⟩
 ·have:∃c,o.op= .call c/\∀b,c.callee≠ .builtin b:=by
   unfold Quiet at hq;simp only [Classical.not_forall]at hq;obtain⟨c,hc,hb⟩:=hq;exact⟨c,hc,fun b e=>hb ⟨b,e⟩⟩
  obtain⟨c,Pl,hnb⟩:=this;rw [Oper.semAt_eq _ _ _ (fun d e=>by rw [Pl]at e;cases e)];unfold AN at hk;unfold execOp;rw [Pl]at hk ⊢;simp only at hk ⊢;unfold nF at hk;obtain⟨args,hk,TZ⟩:=BV h hA hk;split at hk
  ·rename_i b hb;exact aX hb (hnb b)
  ·rename_i f hf
   obtain⟨fv,hk,hfv⟩:=aT h hA hk;split at hk
   ·rename_i g first captured
    rw [nI,nI]at hk;generalize hfe:a.eval f=fv' at hfv;cases hfv with
    | flat RY=>simp [bW]at RY
    | func h1 h2 h3 h4=>
     rename_i BW nA;have hf1:lZ U first.toList BW.toList:=⟨by simpa using h1,h3⟩
     have hf2:lZ U captured.toList nA.toList:=⟨by simpa using h2,h4⟩;obtain⟨he,UA⟩:=hc g _ S K U w _ hk h ((hf1.append TZ).append hf2);have e1:(⟨BW.toList++c.args.toList.map a.eval++nA.toList⟩:Array Value)=(BW++c.args.map a.eval)++nA:=by apply jF.1;simp
     rw [e1]at he UA
     have fU:(do let d<-resolve a.eval c o.type;invoke d.target d.args:Sem Go.Next).run E.P w= .ok (.enter g ((BW++c.args.map a.eval)++nA)) w:=by
      simp only [cR,resolve,hf,hfe,Deferred.ofValue,kR,eL,invoke];exact he w
     rw [fU];refine⟨(fun hd=>nomatch hd),CallsIn.mono (WT UA) ?_⟩
     rintro e w' ⟨v',rfl,hg⟩
     exact hn v' w' hg
   ·rename_i l first captured
    split at hk
    ·rename_i Vt FF
     have Vt:first= #[]:=jF.1 (by simpa using Vt)
     have FF:captured= #[]:=jF.1 (by simpa using FF);subst Vt FF;generalize hfe:a.eval f=fv' at hfv;cases hfv with
     | flat RY=>simp [bW]at RY
     | yield hL=>
      rename_i L;obtain⟨fn,tmps,as,bo,hy,aOh⟩:=hr l args S K U w _ L hk h TZ hL;have e1:(⟨c.args.toList.map a.eval⟩:Array Value)= #[]++c.args.map a.eval:=by apply jF.1;simp
      rw [e1]at hy
      have fU:(do let d<-resolve a.eval c o.type;invoke d.target d.args:Sem Go.Next).run E.P w= .ok (.round L.b fn tmps as bo) w:=by
       simp only [cR,resolve,hf,hfe,Deferred.ofValue,kR,eL,invoke];exact hy
      rw [fU];refine⟨(fun hd=>nomatch hd),RoundIn.mono (aBk aOh) ?_⟩
      rintro e w' ⟨v',rfl,hg⟩
      exact hn v' w' hg
    ·cases hk
   ·cases hk
  ·rename_i r m hf
   obtain⟨fv,hk,hfv⟩:=aT h hA hk;split at hk
   ·rename_i t x
    split at hk
    ·rename_i g hg
     generalize hfe:a.eval r=fv' at hfv;cases hfv with
     | flat RY=>simp [bW]at RY
     | @iface _ _ x' hx=>
      obtain⟨he,UA⟩:=hc g _ S K U w _ hk h (lZ.cons hx TZ);have e1:(⟨x'::c.args.toList.map a.eval⟩:Array Value)= #[x']++c.args.map a.eval:=by apply jF.1;simp
      rw [e1]at he UA
      have fU:(do let d<-resolve a.eval c o.type;invoke d.target d.args:Sem Go.Next).run E.P w= .ok (.enter g (#[x']++c.args.map a.eval)) w:=by
       simp only [cR,resolve,hf,hfe,kR,eL,invoke];have e2:(#[Value.iface t x']++c.args.map a.eval)[0]? =some (Value.iface t x'):=by rw [Array.getElem?_append_left (by simp)];rfl
       have e3:(#[Value.iface t x']++c.args.map a.eval).extract 1 (#[Value.iface t x']++c.args.map a.eval).size=c.args.map a.eval:=by
        apply jF.1;simp [aC9,List.extract];exact mF (by simp)
       simp only [e2,e3];exact(aDn hg x' _ w).trans (he w)
      rw [fU];refine⟨(fun hd=>nomatch hd),CallsIn.mono (WT UA) ?_⟩
      rintro e w' ⟨v',rfl,hg⟩
      exact hn v' w' hg
    ·cases hk
   ·cases hk
theorem aLP (hc:lG E.P w0 E.call) (hr:oG E.P w0 E.round){ops:Array Oper}{k:bA->St->Bool}{Q:Exit->Act->World->Prop}:∀(l:List Oper) {U:Rn} {A:bA} {a:Act} {S:St} {w:World},ZT E ops l A S k=true->SR E.P w0 U A a S w->
 (∀a' w',Next E.P w0 U w k a' w'->Q .normal a' w')->wpListIn (VD ro) 0 E.P ops Q l a w:=by
 intro l;induction l with
 | nil=>intro U A a S w hk hs hQ;exact hQ a w ⟨U,A,S,hk,hs,.refl U w⟩
 | cons o l ih=>
  intro U A a S w hk hs hQ;have hk:Ck E ops o A S (ZT E ops l · · k)=true:=hk;unfold Ck at hk;have hk:=SM hs.act hk;unfold wpListIn
  have go:∀a' w',Next E.P w0 U w (ZT E ops l · · k) a' w'->wpListIn (VD ro) 0 E.P ops Q l a' w':=by
   rintro a' w' ⟨U',A',S',h1,h2,h3⟩
   exact ih h1 h2 fun a2 w2 h=>hQ a2 w2 (h.trans h3)
  cases hw:Region.wanted o (yielded ops a.tmps)with
  | true=>
   rw [hw]at hk;simp only [if_true];have hk:AN E o A S (fun v S=>mV A o.dst v fun A=>ZT E ops l A S k)=true:=hk;exact aIk hc hr hs.rel hs.act hk fun v' w' hg=>go _ _ (WQ hs hg)
  | false=>
   rw [hw]at hk;simp only [Hv,if_false];have hk:mV A o.dst undef (fun A=>ZT E ops l A S k)=true:=hk;exact⟨Po o _ _ _,go _ _ (WQ (k:=fun A S=>ZT E ops l A S k) hs ⟨U,undef,S,hk,.undef,hs.rel,.refl U w⟩)⟩
end
section
variable{F:Fence}{n:Nat}{P:Program}{Q:Exit->Act->World->Prop}{a:Act}{w:World}{b:Frame}{k:List Item}{cs:List Frame}
theorem CL{c:Code}:step P (lone (b.atR a (.code (.scope c)::k)) cs w)= .next (lone (b.atR a (.code c:: .inScope c::k)) cs w):=step_lone_go (by simp [stepG,stepG.exec,Frame.atR])
theorem Ud{c:Code}:step P (lone (b.atR a (.inScope c::k)) cs w)= .next (lone (b.atR a k) cs w):=step_lone_go (by simp [stepG,stepG.exec,Frame.atR])
theorem Pp{c:Code} (h:c.wpIn F n P (Exit.noGoto Q) a w):(Code.scope c).wpIn F n P Q a w:=by
 intro b k cs uV hb hr;have h0:(lone (b.atR a (.code (.scope c)::k)) cs w).fenced P F:=fenced_calm hb hr rfl;obtain⟨e,a₁,w₁,hq,aGH⟩:=h b (.inScope c::k) cs uV hb hr;cases e with
 | normal=>exact⟨.normal,a₁,w₁,hq,.head h0 CL (StepsIn.trans aGH (.one (fenced_calm hb hr rfl) Ud))⟩
 | exit id=>
  have hx:exitTo id (.inScope c::k)=exitTo id k:=by simp [exitTo]
  exact⟨.exit id,a₁,w₁,hq,fun k' hk=> .head h0 CL (aGH.1 k' (by rw [hx];exact hk)),
   fun hr' hk=>let⟨k₁,h1,h2⟩:=aGH.2 hr' (by rw [hx];exact hk);⟨k₁,h1,.head h0 CL h2⟩⟩
 | goto l=>exact hq.elim
 | ret=>exact⟨.ret,a₁,w₁,hq,.of_steps (.one h0 CL) aGH⟩
 | panic ch=>exact⟨.panic ch,a₁,w₁,hq,.of_steps (.one h0 CL) aGH⟩
 | outgrown=>exact⟨.outgrown,a₁,w₁,hq,.of_steps (.one h0 CL) aGH⟩
end
def exR:zH->Exit
 | .normal=> .normal
 | .exit id=> .exit id
 | .ret=> .ret
section
variable{E:Env}{w0:World}
def Arr (P:Program) (w0:World) (U:Rn) (w:World) (K:Cl) (e:Exit) (a':Act) (w':World):Prop:=∃U' ae A' S',e=exR ae/\K ae A' S'=true/\SR P w0 U' A' a' S' w'/\xZ U w U' w'
theorem Arr.trans{P:Program}{U U1:Rn}{w w1:World}{K:Cl}{e:Exit}{a':Act}{w':World} (s:xZ U w U1 w1) (h:Arr P w0 U1 w1 K e a' w'):Arr P w0 U w K e a' w':=
 let⟨U',ae,A',S',h0,h1,h2,h3⟩:=h;⟨U',ae,A',S',h0,h1,h2,s.trans h3⟩
def RoR (U:Rn) (r ro:Option Nat):Prop:=(r=none/\ro=none)\/∃l L,r=some l/\U l=some L/\ro=some L.b
theorem RoR.mono{U U':Rn} (he:Ext U U'){r ro:Option Nat} (h:RoR U r ro):RoR U' r ro:=by
 rcases h with h | ⟨l,L,h1,h2,h3⟩
 ·exact .inl h
 ·exact .inr ⟨l,L,h1,he _ _ h2,h3⟩
abbrev DrT:=Array Oper->bA->St->(bA->St->Bool)->Bool
def aGI (E:Env) (w0:World) (dr:DrT):Prop:=∀(ops:Array Oper) (A:bA) (S:St) (k:bA->St->Bool) (U:Rn) (a:Act) (w:World) (ro:Option Nat) (id:Nat) (Q:Exit->Act->World->Prop),dr ops A S k=true->SR E.P w0 U A a S w->
 (∀a' w',Next E.P w0 U w k a' w'->Q .normal a' w')->(Code.region id ops true).wpIn (VD ro) 0 E.P Q a w
theorem exists_least{p:Nat->Prop} (h:∃m,p m):∃m,p m/\∀j,p j->m<=j:=by
 obtain⟨m,hm⟩:=h;induction m using Nat.strongRecOn with
 | _ m ih=>
  by_cases hl:∃j,j<m/\p j
  ·obtain⟨j,hj,hp⟩:=hl;exact ih j hj hp
  ·exact⟨m,hm,fun j hj=>Nat.le_of_not_lt fun hlt=>hl ⟨j,hlt,hj⟩⟩
def least (p:Nat->Prop):Nat:=open Classical in if h:∃m,p m then(exists_least h).choose else 0
theorem SN{p:Nat->Prop}{m:Nat} (h:p m):p (least p)/\least p<=m:=by
 have hx:∃m,p m:=⟨m,h⟩;unfold least;rw [dif_pos hx];exact⟨(exists_least hx).choose_spec.1,(exists_least hx).choose_spec.2 m h⟩
def aIl (body:bA->St->Cl->Bool) (K:Cl) (m:Nat):bA->St->Bool:=
 NA (β:=bA->St->Bool) (fun _ _=>false) (fun _ ih A S=>body A S fun e A S=>match e with | .normal=>ih A S | e=>K e A S) m
theorem yC{U:Rn}{S:St}{w:World}{P:Program} (h:Rel P w0 U S w){l:Nat}{tm:Tm}{ps:List Tmp}{as bo:Code}{st:LoopState}{pe:Option Code} (ho:S.obj l=some (.loop tm ps as bo st pe)){L:Loc} (hL:U l=some L):
 ∃r,w0.heap.size<=L.b/\w.heap[L.b]? =some (.loop r)/\r.state=st/\r.pending=pe/\r.params.toList=ps/\r.assign=as/\r.body=bo/\TRs U tm r.tmps.toList:=by
 obtain⟨M,r,h1,h2⟩:=h.PB l _ ho;rw [hL]at h1;injection h1 with h1;subst h1;exact⟨r,h2⟩
theorem WU{U:Rn}{S:St}{w:World}{P:Program} (h:Rel P w0 U S w){l:Nat}{tm:Tm}{ps:List Tmp}{as bo:Code}{st:LoopState}{pe:Option Code} (ho:S.obj l=some (.loop tm ps as bo st pe)){L:Loc} (hL:U l=some L)
 {r:Loop} (hb:w0.heap.size<=L.b) (hr:w.heap[L.b]? =some (.loop r)) (WG:r.params.toList=ps) (has:r.assign=as) (hbo:r.body=bo) (htm:TRs U tm r.tmps.toList) (Mz:LoopState) (pe':Option Code):
 Rel P w0 U (S.set l (.loop tm ps as bo Mz pe')) (w.putObj L.b (.loop {r with state:=Mz,pending:=pe'}))/\xZ U w U (w.putObj L.b (.loop {r with state:=Mz,pending:=pe'}))/\
  (setObj L.b (.loop {r with state:=Mz,pending:=pe'})).run P w= .ok () (w.putObj L.b (.loop {r with state:=Mz,pending:=pe'})):=by
 obtain⟨r1,r2⟩:=h.aLK (o':= .loop tm ps as bo Mz pe') ho rfl rfl rfl hL hb rfl (.loop {r with state:=Mz,pending:=pe'}) (fun hh=>⟨L,_,hL,hb,hh,rfl,rfl,WG,has,hbo,htm⟩);exact⟨r1,r2,by simp [setObj,Sem.run,hr];rfl⟩
theorem run_getLoop{P:Program}{w:World}{b:Nat}{r:Loop} (h:w.heap[b]? =some (.loop r)):(Instr.getLoop b).run P w= .ok r w:=by
 simp [Instr.getLoop,getObj,Sem.run,h]
theorem pI{S:St}{l:Nat}{k:jD->Bool} (h:rV S.h l k=true):∃o,S.obj l=some o/\k o=true:=by
 rw [nH]at h;cases ho:S.h.get l with
 | none=>rw [ho]at h;cases h
 | some o=>rw [ho]at h;exact⟨o,ho,h⟩
end
section
variable{E:Env}{w0:World}
theorem aBl (P:Program) (o:Obj) (w:World):(newObj o).run P w= .ok w.heap.size (w.alloc o):=rfl
theorem Pq (hc:lG E.P w0 E.call){params:Array Tmp}{assign body:Code}{U:Rn}{A:bA}{a:Act}{S:St}{w:World}{K:Cl}{ro:Option Nat}{Q:Exit->Act->World->Prop}{g:FuncId}{first captured:List Value}{BW nA:Array Value}
 (h:Rel E.P w0 U S w) (hA:BR E.P U A a) (hD:Yq U A.marks a.defers) {R:Loop} (h1:R.state= .ready) (h2:R.pending=none) (h3:R.tmps=a.tmps) (h4:R.params=params) (h5:R.assign=assign) (h6:R.body=body)
 (hf:lZ U first BW.toList) (aDj:lZ U captured nA.toList)
 (hk:(zT S (.loop A.tmps params.toList assign body .ready none) fun l S=>
  FV first [.func (.yield l) #[] #[]] fun as=>FV as captured fun as=>E.call g as S fun _ S=>
   rV S.h l fun o=>match o with
    | .loop tm ps as bo st pe=>match st with
     | .busy=>false
     | _=>tK S l (.loop tm ps as bo .exhausted pe) fun S=>match pe with
      | none=>K .normal A S
      | some .ret=>K .ret A S
      | some (.exit id)=>K (.exit id) A S
      | _=>false
    | _=>false)=true)
 (hQ:∀e a' w',Arr E.P w0 U w K e a' w'->Q e a' w'):
 (∀w',(callFunc g ((BW++ #[.func (.yield w.heap.size) #[] #[]])++nA)).run E.P w'= .ok (.enter g ((BW++ #[.func (.yield w.heap.size) #[] #[]])++nA)) w')/\
  CallsIn (VD ro) 0 E.P g ((BW++ #[.func (.yield w.heap.size) #[] #[]])++nA) (w.alloc (.loop R)) (rangePost (VD ro) 0 E.P w.heap.size Q a):=by
 rw [jH]at hk
 obtain⟨r1,s1⟩:=h.new (.loop A.tmps params.toList assign body .ready none) (.loop R) ⟨w.heap.size,0,0,0⟩ rfl
  (fun U' he hUz=>⟨_,R,hUz,h.base.size,by show(w.heap.push _)[w.heap.size]? =_;simp,h1,h2,by rw [h4],h5,h6,by rw [h3];exact hA.tmps.mono he⟩) (by simp [jD.olds])
 have hL:=Rn.mW U S.n ⟨w.heap.size,0,0,0⟩;simp only [nI]at hk
 have TZ:lZ (U.put S.n ⟨w.heap.size,0,0,0⟩) (first++[.func (.yield S.n) #[] #[]]++captured) (BW.toList++[.func (.yield w.heap.size) #[] #[]]++nA.toList):=
  ((hf.mono s1.ext).append (.cons (.yield hL) (.nil _))).append (aDj.mono s1.ext)
 obtain⟨he,UA⟩:=hc g _ _ _ _ _ _ hk r1 TZ;have e1:(⟨BW.toList++[.func (.yield w.heap.size) #[] #[]]++nA.toList⟩:Array Value)=(BW++ #[.func (.yield w.heap.size) #[] #[]])++nA:=by apply jF.1;simp
 rw [e1]at he UA;refine⟨he,CallsIn.mono (WT UA) ?_⟩
 rintro e w' ⟨v',rfl,U',v,S',hk,hv,r2,s2⟩
 obtain⟨o,ho,hk⟩:=pI hk;have hL2:U' S.n=some ⟨w.heap.size,0,0,0⟩:=s2.ext _ _ hL;split at hk
 ·rename_i tm ps as bo st pe
  obtain⟨r,hb,hr,hst,hpe,WG,has,hbo,htm⟩:=yC r2 ho hL2
  have hkk:st≠ .busy/\tK S' S.n (.loop tm ps as bo .exhausted pe) (fun S=>match(generalizing:=false) pe with
   | none=>K .normal A S
   | some .ret=>K .ret A S
   | some (.exit id)=>K (.exit id) A S
   | _=>false)=true:=by
   split at hk
   ·cases hk
   ·rename_i hnb;exact⟨fun e=>hnb e,hk⟩
  obtain⟨hnb,hk⟩:=hkk;rw [iB]at hk;obtain⟨r3,s3,aLL⟩:=WU r2 ho hL2 hb hr WG has hbo htm .exhausted pe
  have Ua:(Instr.endLoop w.heap.size).run E.P w'= .ok pe (w'.putObj w.heap.size (.loop {r with state:= .exhausted,pending:=pe})):=by
   have aSg:r.state≠ .busy:=by rw [hst];exact hnb
   simp [Instr.endLoop,run_getLoop hr,aSg,hpe,aLL]
  have aOi:=(s1.trans s2).trans s3
  have hsr:SR E.P w0 U' A a (S'.set S.n (.loop tm ps as bo .exhausted pe)) (w'.putObj w.heap.size (.loop {r with state:= .exhausted,pending:=pe})):=
   ⟨hA.mono (s1.ext.trans s2.ext),r3,hD.mono (s1.ext.trans s2.ext)⟩
  refine⟨pe,_,Ua,?_⟩;split at hk
  ·exact hQ _ _ _ ⟨U',.normal,A,_,rfl,hk,hsr,aOi⟩
  ·exact wpIn_ret (hQ _ _ _ ⟨U',.ret,A,_,rfl,hk,hsr,aOi⟩)
  ·exact wpIn_exit (hQ _ _ _ ⟨U',.exit _,A,_,rfl,hk,hsr,aOi⟩)
  ·cases hk
 ·cases hk
theorem Vu (hc:lG E.P w0 E.call){f:Operand}{params:Array Tmp}{assign body:Code}{U:Rn}{A:bA}{a:Act}{S:St}{w:World}{K:Cl}{r ro:Option Nat}{Q:Exit->Act->World->Prop}
 (hk:Cm E r f params assign body A S K=true) (hs:SR E.P w0 U A a S w) (uV:RoR U r ro) (hQ:∀e a' w',Arr E.P w0 U w K e a' w'->Q e a' w'):(Code.rangeFunc f params assign body).wpIn (VD ro) 0 E.P Q a w:=by
 unfold Cm at hk;obtain⟨fv,hk,hfv⟩:=aT hs.rel hs.act hk;split at hk
 ·rename_i g first captured
  refine wpIn_rangeFunc fun fn _=>?_;generalize hfe:a.eval f=fv' at hfv;cases hfv with
  | flat RY=>simp [bW]at RY
  | func h1 h2 h3 h4=>
   rename_i BW nA;have hf1:lZ U first.toList BW.toList:=⟨by simpa using h1,h3⟩
   have hf2:lZ U captured.toList nA.toList:=⟨by simpa using h2,h4⟩
   have aQv:∀(l:Nat) (w:World),(resolve a.eval (rangeCall f l) 0).run E.P w= .ok {target:= .fn (.func g) nA,args:=BW++ #[.func (.yield l) #[] #[]]} w:=by
    intro l w;simp [resolve,hfe,Deferred.ofValue];rfl
   rcases uV with ⟨rfl,rfl⟩ | ⟨l,L,rfl,hL,rfl⟩
   ·simp only [jH]at hk
    obtain⟨r1,s1⟩:=hs.rel.new .defers (.deferred (some [])) ⟨w.heap.size,0,0,0⟩ rfl
     (fun U' he hUz=>⟨_,hUz,hs.rel.base.size,by show(w.heap.push _)[w.heap.size]? =_;simp⟩) (by simp [jD.olds])
    have hLd:=Rn.mW U S.n ⟨w.heap.size,0,0,0⟩
    have hD:Yq (U.put S.n ⟨w.heap.size,0,0,0⟩) (S.n::A.marks) ({target:= .collected w.heap.size,args:= #[]}::a.defers):=by
     refine⟨by simp [hs.marks.1],fun k d hk=>?_⟩;cases k with
     | zero=>simp at hk;subst hk;exact⟨_,hLd,rfl⟩
     | succ k=>simp at hk;obtain⟨L,g1,g2⟩:=hs.marks.2 k d hk;exact⟨L,s1.ext _ _ g1,by simpa using g2⟩
    have aBm:=Pq (Q:=Q) (a:={a with defers:={target:= .collected w.heap.size,args:= #[]}::a.defers}) (A:=⟨A.tmps,S.n::A.marks,A.g⟩) (ro:=none) hc r1 ⟨hs.act.tmps.mono s1.ext,hs.act.g⟩ hD
     (R:={state:= .ready,pending:=none,fn,tmps:=a.tmps,params,assign,body,defers:=w.heap.size}) rfl rfl rfl rfl rfl rfl (hf1.mono s1.ext) (hf2.mono s1.ext) (K:=K) (g:=g) (by rw [jH];exact hk)
     (fun e a' w' h=>hQ e a' w' (h.trans s1))
    refine⟨(w.alloc (.deferred (some []))).heap.size,[{target:= .collected w.heap.size,args:= #[]}],(w.alloc (.deferred (some []))).alloc (.loop {state:= .ready,pending:=none,fn,tmps:=a.tmps,params,assign,body,defers:=w.heap.size}),_,
     (w.alloc (.deferred (some []))).alloc (.loop {state:= .ready,pending:=none,fn,tmps:=a.tmps,params,assign,body,defers:=w.heap.size}),g,_,_,?_,aQv _ _,fun _ _=>trivial,aBm.1 _,(fun hd=>nomatch hd),aBm.2⟩
    simp only [Instr.enterLoop];rfl
   ·obtain⟨o,ho,hk⟩:=pI hk
    split at hk
    ·rename_i tm ps as bo st pe
     obtain⟨r,hb,hr,_⟩:=yC hs.rel ho hL
     have aBm:=Pq (Q:=Q) (a:=a) (A:=A) (ro:=some L.b) hc hs.rel hs.act hs.marks
      (R:={state:= .ready,pending:=none,fn,tmps:=a.tmps,params,assign,body,defers:=r.defers}) rfl rfl rfl rfl rfl rfl hf1 hf2 (K:=K) (g:=g) hk hQ
     refine⟨w.heap.size,[],w.alloc (.loop {state:= .ready,pending:=none,fn,tmps:=a.tmps,params,assign,body,defers:=r.defers}),_,w.alloc (.loop {state:= .ready,pending:=none,fn,tmps:=a.tmps,params,assign,body,defers:=r.defers}),g,_,_,?_,aQv _ _,
      fun _ _=>trivial,aBm.1 _,(fun hd=>nomatch hd),aBm.2⟩
     simp only [Instr.enterLoop,VD,cR,run_getLoop hr,aBl,eL,kR]
    ·cases hk
 ·cases hk
end
section
variable{E:Env}{w0:World}
theorem Em (hc:lG E.P w0 E.call) (hr:oG E.P w0 E.round){dr:DrT} (hd:aGI E w0 dr):∀(c:Code) {U:Rn} {A:bA} {a:Act} {S:St} {w:World} {K:Cl} {r ro:Option Nat} {Q:Exit->Act->World->Prop},
 xY E dr r c A S K=true->SR E.P w0 U A a S w->RoR U r ro->(∀e a' w',Arr E.P w0 U w K e a' w'->Q e a' w')->c.wpIn (VD ro) 0 E.P Q a w:=by
 intro c;induction c with
 | skip=>intro U A a S w K r ro Q hk hs uV hQ;exact wpIn_skip (hQ _ _ _ ⟨U,.normal,A,S,rfl,hk,hs,.refl U w⟩)
 | label l=>intro U A a S w K r ro Q hk hs uV hQ;exact wpIn_label (hQ _ _ _ ⟨U,.normal,A,S,rfl,hk,hs,.refl U w⟩)
 | ret=>intro U A a S w K r ro Q hk hs uV hQ;exact wpIn_ret (hQ _ _ _ ⟨U,.ret,A,S,rfl,hk,hs,.refl U w⟩)
 | exit id=>intro U A a S w K r ro Q hk hs uV hQ;exact wpIn_exit (hQ _ _ _ ⟨U,.exit id,A,S,rfl,hk,hs,.refl U w⟩)
 | goto l=>intro U A a S w K r ro Q hk hs uV hQ;cases hk
 | refuse l=>intro U A a S w K r ro Q hk hs uV hQ;cases hk
 | region id ops draw=>
  intro U A a S w K r ro Q hk hs uV hQ
  have Tj:∀a' w',Next E.P w0 U w (fun A S=>K .normal A S) a' w'->Q .normal a' w':=by
   rintro a' w' ⟨U',A',S',h1,h2,h3⟩
   exact hQ _ _ _ ⟨U',.normal,A',S',rfl,h1,h2,h3⟩
  cases draw with
  | true=>exact hd ops A S _ U a w ro id Q hk hs Tj
  | false=>exact wpIn_region_list (aLP hc hr ops.toList hk hs Tj)
 | seq x y ihx ihy=>
  intro U A a S w K r ro Q hk hs uV hQ;have hk:xY E dr r x A S (fun e A S=>match e with | .normal=>xY E dr r y A S K | e=>K e A S)=true:=hk;refine wpIn_seq (ihx hk hs uV ?_)
  rintro e a' w' ⟨U',ae,A',S',rfl,h1,h2,h3⟩
  cases ae with
  | normal=>exact ihy h1 h2 (uV.mono h3.ext) fun e a w h=>hQ e a w (h.trans h3)
  | exit id=>exact hQ _ _ _ ⟨U',.exit id,A',S',rfl,h1,h2,h3⟩
  | ret=>exact hQ _ _ _ ⟨U',.ret,A',S',rfl,h1,h2,h3⟩
 | cond c x y ihx ihy=>
  intro U A a S w K r ro Q hk hs uV hQ;have hk:wA A c (fun v=>match v with | .bool b=>gE b (xY E dr r x A S K) (xY E dr r y A S K) | _=>false)=true:=hk;obtain⟨v,hk,hv⟩:=aT hs.rel hs.act hk;split at hk
  ·rename_i b
   have e:=hv.of_flat rfl;cases b with
   | true=>exact wpIn_cond_true e (ihx hk hs uV hQ)
   | false=>exact wpIn_cond_false e (ihy hk hs uV hQ)
  ·cases hk
 | block id x ih=>
  intro U A a S w K r ro Q hk hs uV hQ
  have hk:xY E dr r x A S (fun e A S=>match e with
   | .exit i=>match Nat.beq i id with | true=>K .normal A S | false=>K (.exit i) A S
   | e=>K e A S)=true:=hk
  refine wpIn_block (ih hk hs uV ?_)
  rintro e a' w' ⟨U',ae,A',S',rfl,h1,h2,h3⟩
  cases ae with
  | normal=>exact hQ _ _ _ ⟨U',.normal,A',S',rfl,h1,h2,h3⟩
  | ret=>exact hQ _ _ _ ⟨U',.ret,A',S',rfl,h1,h2,h3⟩
  | exit i=>
   simp only at h1;show Exit.inBlock id Q (.exit i) a' w';split at h1
   ·rename_i hi
    have hi:=dI hi;subst hi;simp only [Exit.inBlock,if_true];exact hQ _ _ _ ⟨U',.normal,A',S',rfl,h1,h2,h3⟩
   ·rename_i hi
    have hi:=VT hi;simp only [Exit.inBlock,hi,if_false];exact hQ _ _ _ ⟨U',.exit i,A',S',rfl,h1,h2,h3⟩
 | scope x ih=>
  intro U A a S w K r ro Q hk hs uV hQ;have hk:xY E dr r x A S K=true:=hk;refine Pp (ih hk hs uV ?_)
  rintro e a' w' ⟨U',ae,A',S',rfl,h1,h2,h3⟩
  cases ae with
  | normal=>exact hQ _ _ _ ⟨U',.normal,A',S',rfl,h1,h2,h3⟩
  | exit id=>exact hQ _ _ _ ⟨U',.exit id,A',S',rfl,h1,h2,h3⟩
  | ret=>exact hQ _ _ _ ⟨U',.ret,A',S',rfl,h1,h2,h3⟩
 | rangeFunc f ps as bo _ _=>
  intro U A a S w K r ro Q hk hs uV hQ;exact Vu hc hk hs uV hQ
 | loop x ih=>
  intro U A a S w K r ro Q hk hs uV hQ;have hk:aIl (xY E dr r x) K E.most A S=true:=hk
  let I:Nat->Act->World->Prop:=fun m a' w'=>Next E.P w0 U w (aIl (xY E dr r x) K m) a' w'
  refine wpIn_loop (I:=fun a w=>∃m,I m a w) (μ:=fun a w=>least fun m=>I m a w) ⟨E.most,U,A,S,hk,hs,.refl U w⟩ ?_
  rintro a1 w1 ⟨m0,hm0⟩
  obtain⟨hm,_⟩:=SN (p:=fun m=>I m a1 w1) hm0;generalize aSh:least (fun m=>I m a1 w1)=m at hm;obtain⟨U1,A1,S1,h1,h2,h3⟩:=hm;cases m with
  | zero=>cases h1
  | succ m=>
   have h1:xY E dr r x A1 S1 (fun e A S=>match e with | .normal=>aIl (xY E dr r x) K m A S | e=>K e A S)=true:=h1;refine ih h1 h2 (uV.mono h3.ext) ?_
   rintro e a' w' ⟨U',ae,A',S',rfl,g1,g2,g3⟩
   cases ae with
   | normal=>
    have hI:I m a' w':=⟨U',A',S',g1,g2,h3.trans g3⟩;refine⟨⟨m,hI⟩,?_⟩;have:=(SN (p:=fun m=>I m a' w') hI).2;exact Nat.lt_succ_of_le this
   | exit id=>exact hQ _ _ _ ⟨U',.exit id,A',S',rfl,g1,g2,h3.trans g3⟩
   | ret=>exact hQ _ _ _ ⟨U',.ret,A',S',rfl,g1,g2,h3.trans g3⟩
end
section
variable{E:Env}{w0:World}
theorem WV{P:Program}{U:Rn}{S:St}{w:World} (h:Rel P w0 U S w){A:bA}{a:Act} (hA:BR P U A a):∀{rs:List ResultVar} {k:List Value->Bool},tV P rs A S k=true->
 ∃vs vs',k vs=true/\lZ U vs vs'/\(rs.mapM (fun | .tmp t=>pure (a.tmps.getD t undef) | .cell x t=>do loadVar t (<-asAddr (a.tmps.getD x undef)):ResultVar->Sem Value)).run P w= .ok vs' w:=by
 intro rs;induction rs with
 | nil=>intro k hk;exact⟨[],[],hk,.nil U,rfl⟩
 | cons x rs ih=>
  intro k hk
  have Ej:∀(t:Tmp) (v v':Value),a.tmps.toList[t]? =some v'->a.tmps.getD t undef=v':=fun t v v' h=>by
   have:a.tmps[t]? =some v':=by simpa using h
   simp [Xj,this]
  cases x with
  | tmp t=>
   have hk:YU A.tmps t (fun v=>tV P rs A S fun vs=>k (v::vs))=true:=hk;obtain⟨v,hv,hk⟩:=HU hk;obtain⟨v',PY,hr⟩:=hA.tmps.get hv;obtain⟨vs,vs',g1,g2,g3⟩:=ih hk;exact⟨_,v'::vs',g1,.cons hr g2,by simp only [Hy,cR,Ej t v v' PY,kR,eL,g3]⟩
  | cell x t=>
   have hk:YU A.tmps x (fun a=>PT P t a S fun v _=>tV P rs A S fun vs=>k (v::vs))=true:=hk;obtain⟨u,hu,hk⟩:=HU hk;obtain⟨u',hu',hr⟩:=hA.tmps.get hu;obtain⟨v,v',hk,hv,fU⟩:=WP h hk hr;obtain⟨vs,vs',g1,g2,g3⟩:=ih hk;refine⟨_,v'::vs',g1,.cons hv g2,?_⟩
   have RK:(do loadVar t (<-asAddr u'):Sem Value).run P w= .ok v' w:=by
    rw [<-fU];cases u' with
    | pointer ad=>
     cases ad with
     | none=>simp [Instr.loadAt,Instr.sureAddr]at fU
     | some ad=>rfl
    | _=>simp [Instr.loadAt,Instr.sureAddr]at fU
   simp only [Hy,cR,Ej x u u' hu',kR];rw [cR]at RK;rw [RK,eL,g3];rfl
theorem Eo{P:Program}{fn:Func}{tmps:Array Value}{R:Ending->World->Prop}:∀{marks:List Nat} {ds:List Deferred} {U:Rn} {S:St} {w:World} {k:St->Bool},PA marks S k=true->Rel P w0 U S w->Yq U marks ds->
 (∀S' w',k S'=true->Rel P w0 U S' w'->xZ U w U w'->LeavesInM (VD none) 0 P fn tmps R [] .returning w')->LeavesInM (VD none) 0 P fn tmps R ds .returning w:=by
 intro marks;induction marks with
 | nil=>
  intro ds U S w k hk h hD hR;have:ds=[]:=sO (by simpa using hD.1);subst this;exact hR S w hk h (.refl U w)
 | cons d marks ih=>
  intro ds U S w k hk h hD hR;cases ds with
  | nil=>have:=hD.1;simp at this
  | cons e ds=>
   have hk:rV S.h d (fun o=>match o with | .defers=>tK S d .dead (PA marks · k) | _=>false)=true:=hk;obtain⟨L,hL,he⟩:=hD.2 0 d rfl;simp only [Xk,Option.some.injEq]at he;subst he;obtain⟨o,ho,hk⟩:=pI hk;split at hk
   ·rw [iB]at hk
    obtain⟨M,g1,g2,g3⟩:=h.PB d _ ho;rw [hL]at g1;injection g1 with g1;subst g1;obtain⟨r1,r2⟩:=h.aLK (o':= .dead) ho rfl rfl rfl hL g2 rfl (.deferred none) (fun _=>trivial);refine⟨by simp,.inl ⟨L.b,w.putObj L.b (.deferred none),rfl,?_,?_⟩⟩
    ·simp [Instr.takeDeferred,getObj,setObj,Sem.run,g3];rfl
    ·refine ih hk r1 ⟨by have:=hD.1;simpa using this,fun k x hx=>hD.2 (k+1) x (by simpa using hx)⟩ fun S' w' h1 h2 h3=>hR S' w' h1 h2 (r2.trans h3)
   ·cases hk
theorem aIm{U:Rn}{k:Tm->Bool}{n:Nat}:∀{args eX _pre pre':List Value} {T:Tm},(iD (β:=Nat->Tm->Bool) (fun _ T=>k T) (fun a _ ih i T=>uU a T i fun T=>bV (Nat.succ i) fun i=>ih i T) args pre'.length T)=true->lZ U args eX->
 TRs U T (pre'++List.replicate (n-pre'.length) undef)->(pre'.length<=n)->∃T',k T'=true/\TRs U T' (pre'++eX++List.replicate (n-(pre'++eX).length) undef):=by
 intro args;induction args with
 | nil=>
  intro eX pre pre' T hk ha hT hn;cases ha.lE;exact⟨T,hk,by simpa using hT⟩
 | cons a as ih=>
  intro eX pre pre' T hk ha hT hn;obtain⟨a',t',rfl,h1,h2⟩:=ha.dM;rw [bU]at hk;obtain⟨hi,hk⟩:=GC hk;rw [bH]at hk
  have hlt:pre'.length<n:=by
   have:=hT.1;simp at this;omega
  have hs:=hT.set hi h1
  have e:(pre'++List.replicate (n-pre'.length) undef).set pre'.length a'=(pre'++[a'])++List.replicate (n-(pre'++[a']).length) undef:=by
   rw [List.set_append_right _ _ (bO _)];have:n-pre'.length=(n-(pre'++[a']).length)+1:=by simp;omega
   rw [this,IQ];simp
  rw [e]at hs
  have xE:(iD (β:=Nat->Tm->Bool) (fun _ T=>k T) (fun a _ ih i T=>uU a T i fun T=>bV (Nat.succ i) fun i=>ih i T) as (pre'++[a']).length (T.put pre'.length a))=true:=by
   simpa using hk
  obtain⟨T',g1,g2⟩:=ih (_pre:=[]) (pre':=pre'++[a']) xE h2 hs (by simp;omega);exact⟨T',g1,by simpa using g2⟩
theorem Ke{U:Rn}{k:Tm->Bool}{n:Nat}{args eX:List Value} (hk:aEY n args k=true) (ha:lZ U args eX):
 ∃T,k T=true/\TRs U T ((⟨eX⟩:Array Value)++Array.replicate (n-(⟨eX⟩:Array Value).size) undef).toList:=by
 obtain⟨T,h1,h2⟩:=aIm (n:=n) (_pre:=[]) (pre':=[]) hk ha ⟨by simp,fun k v hv=>by cases hv⟩ (BP _);exact⟨T,h1,by simpa using h2⟩
theorem Yr (hc:lG E.P w0 E.call) (hr:oG E.P w0 E.round){dr:DrT} (hd:aGI E w0 dr) (LD:∀(f:FuncId) (fn:Func),E.P.funcs[f]? =some fn->fn.name≠ "runtime.NumGoroutine"):lG E.P w0 (Cn E dr):=by
 intro f args S K U w eX hk h ha;unfold Cn at hk;split at hk
 ·rename_i fn hf
  split at hk
  ·rename_i c hb
   refine⟨fun w=>?_,?_⟩
   ·have hn:=LD f fn hf
    have hp:(program).run E.P w= .ok E.P w:=rfl;simp [callFunc,hp,hf,hn,hb]
   ·rw [bH]at hk
    obtain⟨ts,hk,Pf⟩:=Ke hk ha;refine callsIn_of_wp_marks hf hb trivial (Em hc hr hd c (ro:=none) (r:=none) hk ⟨⟨Pf,rfl⟩,h,⟨rfl,by simp⟩⟩ (.inl ⟨rfl,rfl⟩) ?_)
    ·rintro e a' w' ⟨U',ae,A',S',rfl,g1,g2,g3⟩
     have fin:PA A'.marks S' (fun S=>tV E.P fn.results.toList A' S fun vs=>match vs with | [v]=>K v S | vs=>K (.tuple ⟨vs⟩) S)=true->LeavesInM (VD none) 0 E.P fn a'.tmps (aGG E.P w0 U w K) a'.defers .returning w':=by
      intro hk;refine Eo hk g2.rel g2.marks fun S2 w2 hk hrel WR=>?_;obtain⟨vs,vs',hk,JG,fU⟩:=WV hrel g2.act hk
      have aOj:(fn.results.mapM (fun | .tmp t=>pure (a'.tmps.getD t undef) | .cell x t=>do loadVar t (<-asAddr (a'.tmps.getD x undef)):ResultVar->Sem Value)).run E.P w2= .ok ⟨vs'⟩ w2:=by
       rw [<-aDb (xs:=fn.results),List.mapM_toArray];rw [Sem.run_map,fU];rfl
      refine⟨(if h:(⟨vs'⟩:Array Value).size=1 then(⟨vs'⟩:Array Value)[0]else .tuple ⟨vs'⟩),?_,?_⟩
      ·unfold results
       rw [cR];exact(kB (fun r=>Result.andThen r _) aOj).trans rfl
      ·refine⟨_,rfl,?_⟩
       match vs,vs',hk,JG with
       | [v],[v'],hk,JG=>exact⟨U',v,S2,hk,JG.head,hrel,g3.trans WR⟩
       | [],[],hk,JG=>exact⟨U',_,S2,hk,.pZ (.nil _),hrel,g3.trans WR⟩
       | a::b::l,a2::b2::l2,hk,JG=>
        have:¬(⟨a2::b2::l2⟩:Array Value).size=1:=by simp
        rw [dif_neg this];exact⟨U',_,S2,hk,.pZ JG,hrel,g3.trans WR⟩
       | [],_::_,_,JG=>have:=JG.1;simp at this
       | _::_,[],_,JG=>have:=JG.1;simp at this
       | [_],_::_::_,_,JG=>have:=JG.1;simp at this
       | _::_::_,[_],_,JG=>have:=JG.1;simp at this
     cases ae with
     | normal=>exact fin g1
     | ret=>exact fin g1
     | exit id=>cases g1
  ·cases hk
 ·cases hk
end
section
variable{E:Env}{w0:World}
def aBn (ps:List Tmp):List Value->Tm->(Tm->Bool)->Bool:=
 iD (β:=List Value->Tm->(Tm->Bool)->Bool) (fun as ts k=>match as with | []=>k ts | _=>false) (fun p _ ih as ts k=>match as with | a::as=>uU a ts p fun ts=>ih as ts k | []=>false) ps
theorem Pr{U:Rn}:∀{ps:List Tmp} {as as':List Value} {ts:Tm} {ts':Array Value} {k:Tm->Bool},aBn ps as ts k=true->lZ U as as'->TRs U ts ts'.toList->
 ∃out,k out=true/\as'.length=ps.length/\TRs U out ((ps.zip as').foldl (fun tmps (x:Tmp×Value)=>tmps.setIfInBounds x.1 x.2) ts').toList:=by
 intro ps;induction ps with
 | nil=>
  intro as as' ts ts' k hk ha ht;unfold aBn at hk;rw [wC]at hk;split at hk
  ·cases ha.lE;exact⟨ts,hk,rfl,ht⟩
  ·cases hk
 | cons p ps ih=>
  intro as as' ts ts' k hk ha ht;unfold aBn at hk;rw [bU]at hk;split at hk
  ·rename_i a as
   obtain⟨a',t',rfl,h1,h2⟩:=ha.dM;obtain⟨hp,hk⟩:=GC hk;have hk:aBn ps as (ts.put p a) k=true:=hk;obtain⟨out,g1,g2,g3⟩:=ih (ts':=ts'.setIfInBounds p a') hk h2 (by rw [Br];exact ht.set hp h1);exact⟨out,g1,by simp [g2],g3⟩
  ·cases hk
theorem Ys (hc:lG E.P w0 E.call) (hr:oG E.P w0 E.round){dr:DrT} (hd:aGI E w0 dr):oG E.P w0 (Ie E dr):=by
 intro l args S K U w eX L hk h ha hL;unfold Ie at hk;obtain⟨o,ho,hk⟩:=pI hk;split at hk
 ·rename_i tmps params assign body st pe
  have hk:aBn params args tmps (fun ts=>xY E dr (some l) assign ⟨ts,[],E.P.globals.size⟩ S fun e A S=>match e with
   | .normal=>rV S.h l fun o=>match o with
    | .loop tm ps as bo .ready pe=>tK S l (.loop tm ps as bo .busy pe) fun S=>xY E dr (some l) body A S fun e _ S=>
     rV S.h l fun o=>match o with
      | .loop tm ps as bo _ _=>match e with
       | .normal=>tK S l (.loop tm ps as bo .ready none) fun S=>K (.bool true) S
       | .ret=>tK S l (.loop tm ps as bo .done (some .ret)) fun S=>K (.bool false) S
       | .exit id=>tK S l (.loop tm ps as bo .done (some (.exit id))) fun S=>K (.bool false) S
      | _=>false
    | _=>false
   | _=>false)=true:=hk
  obtain⟨r,hb,hrr,hst,hpe,WG,has,hbo,htm⟩:=yC h ho hL;obtain⟨ts,hk,hlen,Pf⟩:=Pr hk ha htm
  have aDo:(Instr.yield L.b ⟨eX⟩).run E.P w= .ok (.round L.b r.fn ((r.params.zip ⟨eX⟩).foldl (fun tmps (x:Tmp×Value)=>tmps.setIfInBounds x.1 x.2) r.tmps) r.assign r.body) w:=by
   have hsz:(⟨eX⟩:Array Value).size=r.params.size:=by
    show eX.length=_;rw [hlen,<-WG];rfl
   have oX:¬(⟨eX⟩:Array Value).size≠r.params.size:=fun hh=>hh hsz;simp only [Instr.yield,cR,run_getLoop hrr,eL,aG oX,kR]
  refine⟨_,_,_,_,aDo,?_⟩;refine roundIn_of_wpIn trivial ?_;rw [has]
  have aOk:((r.params.zip ⟨eX⟩).foldl (fun tmps (x:Tmp×Value)=>tmps.setIfInBounds x.1 x.2) r.tmps)=(params.zip eX).foldl (fun tmps (x:Tmp×Value)=>tmps.setIfInBounds x.1 x.2) r.tmps:=by
   rw [<-aDe]
   congr 1
   rw [Array.toList_zip,WG]
  rw [aOk];refine Em hc hr hd assign (ro:=some L.b) hk ⟨⟨Pf,rfl⟩,h,⟨rfl,by simp⟩⟩ (.inr ⟨l,L,rfl,hL,rfl⟩) ?_
  rintro e a' w' ⟨U1,ae,A1,S1,rfl,g1,g2,g3⟩
  cases ae with
  | exit id=>cases g1
  | ret=>cases g1
  | normal=>
   simp only at g1;obtain⟨o1,ho1,g1⟩:=pI g1;have hL1:=g3.ext _ _ hL;split at g1
   ·rename_i tm ps as bo pe1
    obtain⟨r1,Dv,aIn,aOl,aOm,aOn,aOo,aOp,aOq⟩:=yC g2.rel ho1 hL1;obtain⟨q1,q2,q3⟩:=WU g2.rel ho1 hL1 Dv aIn aOn aOo aOp aOq .busy pe1;rw [iB]at g1;refine⟨w'.putObj L.b (.loop {r1 with state:= .busy,pending:=pe1}),?_,?_⟩
    ·have q3':(setObj L.b (.loop {r1 with state:= .busy})).run E.P w'= .ok () (w'.putObj L.b (.loop {r1 with state:= .busy,pending:=pe1})):=by
      rw [<-aOm]at q3 ⊢;exact q3
     simp only [Instr.beginRound,cR,run_getLoop aIn,eL,q3',aOl,kR]
    ·rw [hbo]
     refine Em hc hr hd body (ro:=some L.b) g1 ⟨g2.act,q1,g2.marks⟩ (.inr ⟨l,L,rfl,hL1,rfl⟩) ?_
     rintro e2 a2 w2 ⟨U2,ae2,A2,S2,rfl,k1,k2,k3⟩
     obtain⟨o2,BU,k1⟩:=pI k1;have hL2:=k3.ext _ _ hL1;split at k1
     ·rename_i tm2 ps2 as2 bo2 st2 pe2
      obtain⟨r2,NN,aIo,aSi,aSj,aOr,aOs,aOt,aOu⟩:=yC k2.rel BU hL2
      have fin:∀(Mz:LoopState) (jump:Option Code) (bv:Bool),K (.bool bv) (S2.set l (.loop tm2 ps2 as2 bo2 Mz jump))=true->bv=jump.isNone->Mz=(if jump.isNone then .ready else .done)->
       ∃v w',(Instr.endRound L.b jump).run E.P w2= .ok v w'/\aGG E.P w0 U w K (.returned v) w':=by
       intro Mz jump bv hK hbv aIp;obtain⟨z1,z2,z3⟩:=WU k2.rel BU hL2 NN aIo aOr aOs aOt aOu Mz jump;refine⟨.bool bv,_,?_,.bool bv,rfl,U2,.bool bv,_,hK,.flat rfl,z1,((g3.trans q2).trans k3).trans z2⟩;rw [aIp]at z3 ⊢;simp only [Instr.endRound,cR,run_getLoop aIo,eL,z3,kR,hbv]
      cases ae2 with
      | normal=>
       simp only [iB]at k1;exact fin .ready none true k1 rfl rfl
      | ret=>
       simp only [iB]at k1;exact fin .done (some .ret) false k1 rfl rfl
      | exit id=>
       simp only [iB]at k1;exact fin .done (some (.exit id)) false k1 rfl rfl
     ·cases k1
   ·cases g1
 ·cases hk
def Ep (P:Program) (w0:World) (ov:FuncId->Option (List Value->St->VK->Bool)):Prop:=∀f g,ov f=some g->lG P w0 (fun f' args S K=>match Nat.beq f' f with | true=>g args S K | false=>false)
theorem aNE (P:Program) (ov:FuncId->Option (List Value->St->VK->Bool)) (dr:Env->DrT) (most n:Nat):(env P ov dr most n).P=P:=by cases n<;>rfl
theorem aGJ{P:Program}{ov:FuncId->Option (List Value->St->VK->Bool)}{dr:Env->DrT}{most:Nat} (hov:Ep P w0 ov) (LD:∀(f:FuncId) (fn:Func),P.funcs[f]? =some fn->fn.name≠ "runtime.NumGoroutine")
 (hdr:∀E:Env,E.P=P->lG P w0 E.call->oG P w0 E.round->aGI E w0 (dr E)):∀n,lG P w0 (env P ov dr most n).call/\oG P w0 (env P ov dr most n).round:=by
 intro n;induction n with
 | zero=>
  refine⟨?_,?_⟩
  ·intro f args S K U w eX hk;cases hk
  ·intro l args S K U w eX L hk;cases hk
 | succ n ih=>
  obtain⟨ih1,ih2⟩:=ih;have hP:=aNE P ov dr most n;have hd:=hdr (env P ov dr most n) hP ih1 ih2;refine⟨fun f args S K U w eX hk h ha=>?_,?_⟩
  ·have hk:(match(generalizing:=false) ov f with | some g=>g args S K | none=>Cn (env P ov dr most n) (dr (env P ov dr most n)) f args S K)=true:=hk
   split at hk
   ·rename_i g hg
    exact hov f g hg f args S K U w eX (by simpa using hk) h ha
   ·have:=Yr (E:=env P ov dr most n) (by rw [hP];exact ih1) (by rw [hP];exact ih2) hd (by rw [hP];exact LD) f args S K U w eX hk (by rw [hP];exact h) ha
    rw [hP]at this;exact this
  ·have:=Ys (E:=env P ov dr most n) (by rw [hP];exact ih1) (by rw [hP];exact ih2) hd
   rw [hP]at this;exact this
end
section
variable{ro:Option Nat}{P:Program}{ops:Array Oper}{Q:Exit->Act->World->Prop}
def Yl (P:Program) (ops:Array Oper) (i:Nat) (v:Value) (a:Act) (w:World):Prop:=
 ∃o,ops[i]? =some o/\((Region.wanted o (yielded ops a.tmps)=true/\(execOp a.eval o).run P w= .ok (.value v) w)\/(Region.wanted o (yielded ops a.tmps)=false/\v=undef))
def dep (ops:Array Oper) (j i:Nat):Bool:=match ops[j]? with | some o=>o.after.any (fun e=>Region.binds .any e&&e.on==i) | none=>false
theorem aGK{j i:Nat}{o:Oper} (hj:ops[j]? =some o) (h:dep ops j i=false):∀e∈o.after,Region.binds .any e=true->e.on≠i:=by
 intro e he hb hi;unfold dep at h;rw [hj]at h;simp only [Array.any_eq_false]at h;obtain⟨k,hk,rfl⟩:=Array.mem_iff_getElem.1 he;have:=h k hk;simp [hb,hi]at this
theorem aGL{i j:Nat}{listed:Array Bool} (hi:listed.getD i false=false) (hj:j∈Region.ready .any ops listed):dep ops j i=false:=by
 obtain⟨_,o,ho,rY⟩:=mem_ready.1 hj;unfold dep;rw [ho];simp only [Array.any_eq_false];intro k hk;have:=rY _ (Array.getElem_mem hk);cases hb:Region.binds .any o.after[k]with
 | false=>simp
 | true=>
  have h2:=this hb;simp only [Hz,beq_iff_eq];intro e;rw [e,hi]at h2;cases h2
def Plain (ops:Array Oper):Prop:=∀(j:Nat) (o:Oper),ops[j]? =some o->(∀cs b,o.op≠ .select cs b)/\∀c,o.op≠ .defer c
theorem Yl.put{i:Nat}{v u:Value}{a:Act}{d:Option Tmp}{w:World} (xN:Plain ops) (h:∀o,ops[i]? =some o->∀t,d=some t->t∉o.looksAt ops):Yl P ops i v (a.put d u) w↔Yl P ops i v a w:=by
 unfold Yl;constructor
 ·rintro⟨o,ho,h1⟩
  rw [wanted_put o a d u (h o ho),execOp_put o (xN i o ho).1 a d u (h o ho)]at h1;exact⟨o,ho,h1⟩
 ·rintro⟨o,ho,h1⟩
  refine⟨o,ho,?_⟩;rw [wanted_put o a d u (h o ho),execOp_put o (xN i o ho).1 a d u (h o ho)];exact h1
theorem Yl.run{i:Nat}{o:Oper}{v:Value}{a:Act}{w:World} (xN:Plain ops) (hi:ops[i]? =some o) (h:Yl P ops i v a w){K:Act->World->Prop} (hk:K (a.put o.dst v) w):wpOpIn (VD ro) 0 P ops Q i K a w:=by
 obtain⟨o',WS,h⟩:=h;rw [hi]at WS;injection WS with WS;subst WS;unfold wpOpIn;simp only [hi];rcases h with ⟨hw,hr⟩ | ⟨hw,rfl⟩
 ·simp only [hw,if_true,Oper.wpIn,Oper.semAt_eq _ _ _ (xN i o hi).2,hr,Oper.uponIn]
  exact⟨fun _ _=>trivial,hk⟩
 ·simp only [hw,Hv,if_false]
  exact⟨fun _ _=>trivial,hk⟩
def DV (ro:Option Nat) (P:Program) (ops:Array Oper) (Q:Exit->Act->World->Prop):Nat->List (Nat×Value)->Array Bool->Act->World->Prop
 | 0,J,listed,a,w=>(∀p∈J,Yl P ops p.1 p.2 a w)/\Region.ready .any ops listed=[]/\Q .normal a w
 | f+1,J,listed,a,w=>(∀p∈J,Yl P ops p.1 p.2 a w)/\(Region.ready .any ops listed=[]->Q .normal a w)/\
  ∀j∈Region.ready .any ops listed,wpOpIn (VD ro) 0 P ops Q j (DV ro P ops Q f (J.filter fun p=> !dep ops j p.1) (listed.setIfInBounds j true)) a w
theorem DV.yl{f:Nat}{J:List (Nat×Value)}{listed:Array Bool}{a:Act}{w:World} (h:DV ro P ops Q f J listed a w):∀p∈J,Yl P ops p.1 p.2 a w:=by cases f<;>exact h.1
theorem DV.mono:∀{f:Nat} {J J':List (Nat×Value)} {listed:Array Bool} {a:Act} {w:World},DV ro P ops Q f J listed a w->(∀p∈J',p∈J)->DV ro P ops Q f J' listed a w:=by
 intro f;induction f with
 | zero=>intro J J' listed a w h hs;exact⟨fun p hp=>h.1 p (hs p hp),h.2⟩
 | succ f ih=>
  intro J J' listed a w h hs;refine⟨fun p hp=>h.1 p (hs p hp),h.2.1,fun j hj=>wpOpIn_mono (fun a w h=>ih h fun p hp=>?_) (h.2.2 j hj)⟩;rw [kA]at hp ⊢;exact⟨hs p hp.1,hp.2⟩
theorem DV.any:∀{f:Nat} {J:List (Nat×Value)} {listed:Array Bool} {a:Act} {w:World},DV ro P ops Q f J listed a w->wpAnyIn (VD ro) 0 P .any ops Q f listed a w:=by
 intro f;induction f with
 | zero=>intro J listed a w h;exact h.2
 | succ f ih=>intro J listed a w h;exact⟨h.2.1,fun j hj=>wpOpIn_mono (fun a w h=>ih h) (h.2.2 j hj)⟩
theorem aBo (xN:Plain ops){j:Nat}{oi oj:Oper}{v:Value} (hj:ops[j]? =some oj) (hap:oi.apart ops oj=true) (hQ:∀c a w,¬Q (.panic c) a w){K:Act->World->Prop}{a:Act}{w:World}
 (h:wpOpIn (VD ro) 0 P ops Q j K (a.put oi.dst v) w):wpOpIn (VD ro) 0 P ops Q j (fun a' w'=>K (a'.put oi.dst v) w') a w:=by
 obtain⟨h1,h2,h3⟩:=Oper.apart_spec hap;obtain⟨p1,p2⟩:=xN j oj hj;unfold wpOpIn at*;simp only [hj]at*;rw [wanted_put oj a oi.dst v h1]at h;split
 ·rename_i hw
  simp only [hw,if_true]at h;unfold Oper.wpIn at*;refine⟨fun _ _=>trivial,?_⟩;have h:=h.2;rw [Oper.semAt_eq _ _ _ p2,execOp_put oj p1 a oi.dst v h1]at h;rw [Oper.semAt_eq _ _ _ p2];generalize (execOp a.eval oj).run P w=r at*;cases r with
  | ok x w'=>
   cases x<;>simp only [Oper.uponIn]at h ⊢
   case value u=>rw [<-Act.put_comm a v u h2];exact h
   case skip=>rw [<-Act.put_comm a v undef h2];exact h
   case defer d=>
    rw [<-Act.put_comm _ v undef h2,<-Act.put_defers];exact h
   case enter f args=>
    refine⟨h.1,CallsIn.mono h.2 fun e w'' he=>?_⟩;cases e with
    | returned u=>show K _ _;rw [<-Act.put_comm a v u h2];exact he
    | panicked c=>exact aX he (hQ _ _ _)
    | outgrown=>exact he
   case row row args=>exact⟨h.1,RowsIn.mono h.2 fun u w'' he=>by rw [<-Act.put_comm a v u h2];exact he⟩
   case round l f tmps assign body=>
    refine⟨h.1,RoundIn.mono h.2 fun e w'' he=>?_⟩;cases e with
    | returned u=>show K _ _;rw [<-Act.put_comm a v u h2];exact he
    | panicked c=>exact aX he (hQ _ _ _)
    | outgrown=>exact he
  | halt x w'=>
   cases x<;>simp only [Oper.uponIn]at h ⊢
   case panic u=>exact aX h (hQ _ _ _)
 ·rename_i hw
  simp only [hw]at h;exact⟨fun _ _=>trivial,by rw [<-Act.put_comm a v undef h2];exact h.2⟩
theorem DV.take (xN:Plain ops) (hQ:∀c a w,¬Q (.panic c) a w){i:Nat}{oi:Oper}{v:Value} (hi:ops[i]? =some oi) (NP:∀d,oi.dst=some d->d∉oi.looksAt ops):
 ∀(f:Nat) (J:List (Nat×Value)) (listed:Array Bool) (a:Act) (w:World),
  (∀j oj,ops[j]? =some oj->j≠i->listed.getD j true=false->(∀e∈oj.after,Region.binds .any e=true->e.on≠i)->oi.apart ops oj=true)->
  (∀p∈J,∀o,ops[p.1]? =some o->∀t,oi.dst=some t->t∉o.looksAt ops)->i∈Region.ready .any ops listed->
  DV ro P ops Q f ((i,v)::J) (listed.setIfInBounds i true) (a.put oi.dst v) w->DV ro P ops Q (f+1) J listed a w:=by
 intro f;have aNF:∀(a:Act) (w:World),Yl P ops i v (a.put oi.dst v) w->Yl P ops i v a w:=fun a w h=>(Yl.put xN (fun o ho t ht=>by rw [hi]at ho;injection ho with ho;subst ho;exact NP t ht)).1 h;induction f with
 | zero=>
  intro J listed a w JH hJ hr H;have hY:=H.yl;refine⟨fun p hp=>(Yl.put xN (hJ p hp)).1 (hY p (.tail _ hp)),fun h=>(by rw [h]at hr;cases hr),fun j hj=>?_⟩;by_cases hji:j=i
  ·subst hji
   exact Yl.run xN hi (aNF a w (hY _ (.head _))) (DV.mono H fun p hp=> .tail _ (kA.1 hp).1)
  ·have:=ready_mono hj hji
   rw [H.2.1]at this;cases this
 | succ f ih=>
  intro J listed a w JH hJ hr H;have hY:=H.yl;refine⟨fun p hp=>(Yl.put xN (hJ p hp)).1 (hY p (.tail _ hp)),fun h=>(by rw [h]at hr;cases hr),fun j hj=>?_⟩;by_cases hji:j=i
  ·subst hji
   exact Yl.run xN hi (aNF a w (hY _ (.head _))) (DV.mono H fun p hp=> .tail _ (kA.1 hp).1)
  ·have h1:=H.2.2 j (ready_mono hj hji)
   obtain⟨aQw,oj,hoj,rY⟩:=mem_ready.1 hj
   have aSk:listed.getD i false=false:=by
    have h0:=(mem_ready.1 hr).1;rcases BO i listed.size with h' | h'
    ·simp [h']at h0 ⊢;exact h0
    ·simp [Array.getElem?_eq_none h']at h0
   have aLQ:=aGL aSk hj;have h2:=aBo xN hoj (JH j oj hoj hji aQw (aGK hoj aLQ)) hQ h1;refine wpOpIn_mono (fun a' w' h3=>ih _ (listed.setIfInBounds j true) a' w' (fun k ok hk hki hun xP=>?_) (fun p hp=>hJ p (kA.1 hp).1) (ready_mono hr (aN hji)) ?_) h2
   ·refine JH k ok hk hki ?_ xP
    by_cases hjk:j=k
    ·subst hjk;exact aQw
    ·rw [getD_set_ne true hjk]at hun;exact hun
   ·rw [Array.setIfInBounds_comm _ _ hji]
    rw [List.filter_cons_of_pos (by simp [aLQ])]at h3;exact h3
end
section
variable{E:Env}{w0:World}{U:Rn}{S:St}{w:World}
def rI (P:Program) (o:Oper):Bool:=match o.op with
 | .move _ | .assign _ | .pick .. | .build .. | .nilCheck _ | .binOp .. | .unOp .. | .makeInterface .. | .makeFunc .. | .slice .. | .fieldAddr .. | .field .. | .indexAddr .. | .index .. | .extract .. =>true
 | .convert _ d _=>match P.underlying d with | some (.int _)=>true | _=>false
 | .call c=>match c.callee with
  | .builtin .len=>match c.argTypes.toList with | t::_=>(match P.underlying t with | some (.slice _) | some .string=>true | _=>false) | []=>false
  | _=>false
 | _=>false
def DW (o:Oper):Bool:=match o.op with
 | .load .. | .lookup .. =>true
 | _=>false
def VF (P:Program) (U:Rn) (S:St) (K:VK) (s:Sem Go.Next):Prop:=∃v v',K v S=true/\VR U v v'/\∀w,s.run P w= .ok (.value v') w
theorem VF.mk{P:Program}{K:VK}{s:Sem Value}{v v':Value} (hk:K v S=true) (hv:VR U v v') (hr:∀w,s.run P w= .ok v' w):VF P U S K (do pure (.value (<-s))):=
 ⟨v,v',hk,hv,fun w=>by rw [cR,hr];rfl⟩
theorem SO (h:Rel E.P w0 U S w){A:bA}{a:Act} (hA:BR E.P U A a){o:Oper} (hp:rI E.P o=true){K:VK} (hk:AN E o A S K=true):VF E.P U S K (execOp a.eval o):=by
 unfold AN at hk;unfold execOp;unfold rI at hp;split at hk<;>first | (cases hk;done) | skip
 all_goals (rename_i Pl;rw [Pl]at hp;first | (cases hp;done) | skip)
 all_goals (simp only [Pl])
 ·obtain⟨v,hk,hv⟩:=aT h hA hk
  exact⟨v,_,hk,hv,fun w=>rfl⟩
 ·obtain⟨v,hk,hv⟩:=aT h hA hk
  exact⟨v,_,hk,hv,fun w=>rfl⟩
 ·obtain⟨c,hk,hc⟩:=aT h hA hk
  obtain⟨x,hk,hx⟩:=aT h hA hk;obtain⟨y,hk,hy⟩:=aT h hA hk;split at hk
  ·have:=hc.of_flat rfl
   exact⟨_,_,hk,hx,fun w=>by simp [this,asBool]⟩
  ·have:=hc.of_flat rfl
   exact⟨_,_,hk,hy,fun w=>by simp [this,asBool]⟩
  ·cases hk
 ·obtain⟨v,v',hk,hv,hr⟩:=Ee h hA hk
  exact VF.mk hk hv hr
 ·obtain⟨x,hk,hx⟩:=aT h hA hk
  split at hk
  ·rename_i ad
   obtain⟨i,off,sp⟩:=ad;have hx2:=hx;obtain⟨_,L,hL,e⟩:=hx.KC;rw [e]at hx2 ⊢;exact⟨_,_,hk,hx2,fun w=>rfl⟩
  ·rename_i f x1 x2
   generalize hg:a.eval _=v' at hx ⊢;cases hx with
   | flat hf=>simp [bW]at hf
   | func h1 h2 h3 h4=>exact⟨_,_,hk,.func h1 h2 h3 h4,fun w=>rfl⟩
  ·rename_i f x1 x2
   generalize hg:a.eval _=v' at hx ⊢;cases hx with
   | flat hf=>simp [bW]at hf
   | yield h1=>exact⟨_,_,hk,.yield h1,fun w=>rfl⟩
  ·rename_i s t x1
   generalize hg:a.eval _=v' at hx ⊢;cases hx with
   | flat hf=>simp [bW]at hf
   | LC h1=>
    cases h1 with
    | flat hf=>simp [bW]at hf
    | iface h2=>
     split at hk
     ·rename_i g hm
      exact⟨_,_,hk,.LC (.iface h2),fun w=>NO hm _ w⟩
     ·cases hk
  ·rename_i t x1
   generalize hg:a.eval _=v' at hx ⊢;cases hx with
   | flat hf=>simp [bW]at hf
   | iface h1=>exact⟨_,_,hk,.iface h1,fun w=>rfl⟩
  ·cases hk
 ·obtain⟨x,hk,hx⟩:=aT h hA hk
  obtain⟨y,hk,hy⟩:=aT h hA hk;obtain⟨v,hk,hf,hr⟩:=Pm hk hx hy;exact VF.mk hk (.flat hf) (hr _ _)
 ·obtain⟨x,hk,hx⟩:=aT h hA hk
  obtain⟨v,hk,hf,hr⟩:=Vs (P:=E.P) hk hx;exact VF.mk hk (.flat hf) hr
 ·
   rename_i s d x;obtain⟨x,hk,hx⟩:=aT h hA hk;simp only at hp;split at hp
   ·rename_i kd hd
    unfold Jw at hk;split at hk
    ·rename_i kk n
     rw [hx.of_flat rfl];split at hk
     ·rename_i dd k hs hd2
      unfold OY at hk;rw [oF,KZ]at hk;refine VF.mk hk (.flat rfl) fun w=>?_;simp [convert,run_underlying hs,run_underlying hd2,Conv.intToInt]
     ·cases hk
    ·split at hk
     ·rename_i h1 h2;rw [hd]at h2;cases h2
     ·rename_i h1 h2;rw [hd]at h2;cases h2
     ·cases hk
    ·split at hk
     ·rename_i h1 h2;rw [hd]at h2;cases h2
     ·cases hk
    ·split at hk
     ·cases hk
     ·rename_i h1 h2 _;rw [hd]at h2;cases h2
     ·cases hk
    ·cases hk
   ·cases hp
 ·obtain⟨x,hk,hx⟩:=aT h hA hk
  split at hk
  ·cases hk
  ·rename_i d hd hu
   refine VF.mk hk (.iface hx) fun w=>?_;simp only [Instr.makeInterface,cR,run_underlying hu,eL];cases d<;>first | rfl | exact aX hu (hd _)
  ·cases hk
 ·split at hk
  ·obtain⟨x,hk,hx⟩:=BV h hA hk
   obtain⟨y,hk,hy⟩:=BV h hA hk;have hx:=hx.map_toArray;have hy:=hy.map_toArray;exact VF.mk hk (.func hx.1 hy.1 hx.2 hy.2) fun w=>rfl
  ·split at hk
   ·rename_i x ZU hx2
    obtain⟨v,hk,hv⟩:=aT h hA hk;have e1:=jF.1 (show _=(⟨[x]⟩:Array Operand).toList from ZU);have e2:=jF.1 (show _=(⟨[]⟩:Array Operand).toList from hx2);subst e1 e2;exact VF.mk hk (.LC hv) fun w=>by simp [Instr.makeFunc]
   ·cases hk
  ·cases hk
 ·rename_i t x lo hi mx
  have hmh:mx.map a.eval=none\/hi.map a.eval≠none:=by
   cases mx with
   | none=>exact .inl rfl
   | some m=>cases hi with
    | none=>exact aX hk (by simp)
    | some _=>exact .inr (by simp)
  replace hk:(wA A x fun x=>Cj A lo fun lo=>Cj A hi fun hi=>Cj A mx fun mx=>vI E.P t x lo hi mx S fun v=>K v S)=true:=by
   cases mx<;>cases hi<;>first | exact hk | cases hk
  obtain⟨x,hk,hx⟩:=aT h hA hk;obtain⟨lo,hk,hlo⟩:=GD h hA hk;obtain⟨hi,hk,hhi⟩:=GD h hA hk;obtain⟨mx,hk,hmx⟩:=GD h hA hk
  have hO:∀(x:Option Operand) (v:Option Value),(v=none/\x=none\/∃u y,v=some u/\x=some y/\VR U u (a.eval y))->Lq U v (x.map a.eval):=by
   intro x v hv;rcases hv with ⟨rfl,rfl⟩ | ⟨u,y,rfl,rfl,hr⟩
   ·exact .inl ⟨rfl,rfl⟩
   ·exact .inr ⟨u,_,rfl,rfl,hr⟩
  obtain⟨v,v',hk,hv,hr⟩:=El h hk hx (hO _ _ hlo) (hO _ _ hhi) (hO _ _ hmx) hmh;exact VF.mk hk hv hr
 ·obtain⟨x,hk,hx⟩:=aT h hA hk
  obtain⟨v,v',hk,hv,hr⟩:=PW hk hx;exact VF.mk hk hv hr
 ·obtain⟨x,hk,hx⟩:=aT h hA hk
  obtain⟨v,v',hk,hv,hr⟩:=Ec hk hx;exact VF.mk hk hv hr
 ·obtain⟨x,hk,hx⟩:=aT h hA hk
  obtain⟨y,hk,hy⟩:=aT h hA hk;obtain⟨v,v',hk,hv,hr⟩:=PV hk hx hy;exact VF.mk hk hv hr
 ·obtain⟨x,hk,hx⟩:=aT h hA hk
  obtain⟨y,hk,hy⟩:=aT h hA hk;obtain⟨v,v',hk,hv,hr⟩:=Ed hk hx hy;exact VF.mk hk hv hr
 ·rename_i tt ix
  obtain⟨x,hk,hx⟩:=aT h hA hk;split at hk
  ·obtain⟨vs',e,hl⟩:=hx.QB
   obtain⟨v,hv,hk⟩:=PX hk;obtain⟨v',PY,hr⟩:=hl.get hv;refine VF.mk hk hr fun w=>?_;rw [e];have:vs'[ix]? =some v':=by simpa using PY
   simp [Instr.extract,this]
  ·cases hk
 ·
   rename_i c;simp only at hp;split at hp
   ·rename_i hb
    split at hp
    ·rename_i t rest Pf
     have h0:c.argTypes[0]? =some t:=by have:=kB (·[0]?) Pf;simpa using this
     unfold nF at hk;obtain⟨args,hk,TZ⟩:=BV h hA hk;rw [hb]at hk;simp only at hk
     have e2:(do let d<-resolve a.eval c o.type;invoke d.target d.args:Sem Go.Next)=(do pure (.value (<-Builtin.len_ c.argTypes o.type (c.args.map a.eval)))):=by
      unfold resolve;rw [hb];rfl
     rw [e2];have e:(c.args.map a.eval)=⟨c.args.toList.map a.eval⟩:=by apply jF.1;simp
     rw [e];generalize c.args.toList.map a.eval=eX at TZ;unfold oZ at hk;split at hk<;>first | (cases hk;done) | (rename_i hbb;cases hbb;done) | skip
     rename_i x _;obtain⟨x',t',rfl,hx,ht'⟩:=TZ.dM;cases ht'.lE;rw [Pf]at hk;simp only at hk;split at hk
     ·rename_i base n cc
      split at hk
      ·rename_i e he
       have hu:=gJ he;refine VF.mk hk (v':= .int .i64 (n:Int)) .nat fun w=>?_;have main:∀b' c',(Builtin.len_ c.argTypes o.type ⟨[.slice b' n c']⟩).run E.P w= .ok (.int .i64 (n:Int)) w:=fun b' c'=>by simp [Builtin.len_,h0,run_underlying hu,goInt]
       cases hx with
       | flat _=>exact main _ _
       | slice _=>exact main _ _
       | rW _ _ _ _ _=>exact main _ _
       | DP=>exact main _ _
       | DQ _=>exact main _ _
      ·cases hk
     ·rename_i s
      rw [hx.of_flat rfl];split at hk
      ·rename_i hu
       rw [oE]at hk;refine VF.mk hk (v':= .int .i64 (s.data.toList.length:Int)) .nat fun w=>?_;simp [Builtin.len_,h0,run_underlying hu,goInt]
      ·cases hk
     ·split at hk
      ·rename_i q hm
       have hu:=CI hm;rw [hu]at hp;cases hp
      ·cases hk
     ·split at hk
      ·rename_i n e hu
       rw [hu]at hp;cases hp
      ·cases hk
     ·cases hk
    ·cases hp
   ·cases hp
theorem Er (h:Rel E.P w0 U S w){A:bA}{a:Act} (hA:BR E.P U A a){o:Oper} (hp:DW o=true){K:VK} (hk:AN E o A S K=true):
 ∃v v',K v S=true/\VR U v v'/\(execOp a.eval o).run E.P w= .ok (.value v') w:=by
 unfold AN at hk;unfold execOp;unfold DW at hp;split at hk<;>first | (cases hk;done) | skip
 all_goals (rename_i Pl;rw [Pl]at hp;first | (cases hp;done) | skip)
 all_goals (simp only [Pl])
 ·obtain⟨x,hk,hx⟩:=aT h hA hk
  obtain⟨v,v',hk,hv,hr⟩:=WP h hk hx;exact⟨v,v',hk,hv,by rw [cR,hr];rfl⟩
 ·obtain⟨x,hk,hx⟩:=aT h hA hk
  obtain⟨y,hk,hy⟩:=aT h hA hk;obtain⟨v,v',hk,hv,hr⟩:=An h hk hx hy;exact⟨v,v',hk,hv,by rw [cR,hr];rfl⟩
end
def Es:Value->Value->Bool
 | .bool a,.bool b=>a==b
 | .int j a,.int k b=>FW j k&&eqI a b
 | .string a,.string b=>Ov a.data.toList b.data.toList
 | .pointer none,.pointer none | .nilFunc,.nilFunc | .nilIface,.nilIface | .map none,.map none=>true
 | .pointer (some ⟨i,o,none⟩),.pointer (some ⟨j,p,none⟩)=>Nat.beq i j&&Nat.beq o p
 | .slice none n c,.slice none m d=>Nat.beq n m&&Nat.beq c d
 | .slice (some ⟨i,o,none⟩) n c,.slice (some ⟨j,p,none⟩) m d=>(Nat.beq i j&&Nat.beq o p)&&(Nat.beq n m&&Nat.beq c d)
 | .map (some i),.map (some j)=>Nat.beq i j
 | .slice (some ⟨i,o,some 0⟩) n c,.slice (some ⟨j,p,some 0⟩) m d=>(Nat.beq i j&&Nat.beq o p)&&(Nat.beq n m&&Nat.beq c d)
 | .slice (some ⟨i,o,some (s+2)⟩) _ _,.slice (some ⟨j,p,some (t+2)⟩) _ _=>(Nat.beq i j&&Nat.beq o p)&&Nat.beq s t
 | .func (.func f) ⟨[]⟩ ⟨[]⟩,.func (.func g) ⟨[]⟩ ⟨[]⟩=>Nat.beq f g
 | .func (.func f) ⟨[]⟩ ⟨[.pointer (some ⟨i,o,none⟩)]⟩,.func (.func g) ⟨[]⟩ ⟨[.pointer (some ⟨j,p,none⟩)]⟩=>Nat.beq f g&&(Nat.beq i j&&Nat.beq o p)
 | .func (.yield i) ⟨[]⟩ ⟨[]⟩,.func (.yield j) ⟨[]⟩ ⟨[]⟩=>Nat.beq i j
 | _,_=>false
def KF (f:Value->Value->Bool):List Value->List Value->Bool
 | [],[]=>true
 | a::l,b::m=>f a b&&KF f l m
 | _,_=>false
def Kf:Nat->Value->Value->Bool
 | 0,a,b=>Es a b
 | n+1,.func (.func f) ⟨a⟩ ⟨c⟩,.func (.func g) ⟨b⟩ ⟨d⟩=>Nat.beq f g&&(KF (Kf n) a b&&KF (Kf n) c d)
 | _+1,a,b=>Es a b
def aBp (a b:Value):Bool:=Kf 3 a b
def Vv:List Value->List Value->Bool
 | [],[]=>true
 | a::l,b::m=>aBp a b&&Vv l m
 | _,_=>false
def Kg:Value->Value->Bool
 | .agg a,.agg b=>Vv a.toList b.toList
 | a,b=>aBp a b
def Ii:List Value->List Value->Bool
 | [],[]=>true
 | a::l,b::m=>Kg a b&&Ii l m
 | _,_=>false
def UB:Value->Value->Bool
 | .tuple a,.tuple b=>Ii a.toList b.toList
 | a,b=>Kg a b
theorem VR.aNG{U:Rn}{f:FuncId}{x:Value} (h:VR U (.func (.func f) ⟨[]⟩ ⟨[]⟩) x):x= .func (.func f) ⟨[]⟩ ⟨[]⟩:=by
 cases h with
 | flat h=>simp [bW]at h
 | @func _ _ a' _ c' ha hc _ _=>
  rw [aC2 (xs:=a') (by simpa using ha.symm),aC2 (xs:=c') (by simpa using hc.symm)]
theorem VR.aNH{U:Rn}{f:FuncId}{i o:Nat}{x:Value} (h:VR U (.func (.func f) ⟨[]⟩ ⟨[.pointer (some ⟨i,o,none⟩)]⟩) x):∃L,U i=some L/\x= .func (.func f) ⟨[]⟩ ⟨[.pointer (some ⟨L.b,L.s+o,none⟩)]⟩:=by
 cases h with
 | flat h=>simp [bW]at h
 | @func _ _ a' _ c' ha hc _ h2=>
  obtain⟨l⟩:=c'
  match l,hc,h2 with
  | [p],_,h2=>
   have hp:=h2 0 _ _ rfl rfl;obtain⟨_,L,hL,rfl⟩:=hp.KC;exact⟨L,hL,by rw [aC2 (xs:=a') (by simpa using ha.symm)]⟩
theorem VR.Vw{U:Rn}{l:Nat}{x:Value} (h:VR U (.func (.yield l) ⟨[]⟩ ⟨[]⟩) x):∃L,U l=some L/\x= .func (.yield L.b) #[] #[]:=by
 cases h with
 | flat h=>simp [bW]at h
 | yield h=>exact⟨_,h,rfl⟩
theorem Kh{U:Rn}{a b x y:Value} (h:Es a b=true) (hx:VR U a x) (hy:VR U b y):x=y:=by
 unfold Es at h;split at h
 ·have e:=eq_of_beq h;subst e;rw [hx.of_flat rfl,hy.of_flat rfl]
 ·rw [dR]at h
  have e1:=LA h.1;subst e1;have e2:=h.2;rw [RZ]at e2;have e2:=eq_of_beq e2;subst e2;rw [hx.of_flat rfl,hy.of_flat rfl]
 ·rw [SC]at h
  have e:=eq_of_beq h;rw [hx.of_flat rfl,hy.of_flat rfl,ByteArray.ext (jF.1 e)]
 ·rw [hx.of_flat rfl,hy.of_flat rfl]
 ·rw [hx.of_flat rfl,hy.of_flat rfl]
 ·rw [hx.of_flat rfl,hy.of_flat rfl]
 ·rw [hx.of_flat rfl,hy.of_flat rfl]
 ·rw [dR]at h
  have e1:=dI h.1;have e2:=dI h.2;subst e1 e2;obtain⟨_,L,hL,rfl⟩:=hx.KC;obtain⟨_,M,hM,rfl⟩:=hy.KC;rw [hL]at hM;injection hM with hM;subst hM;rfl
 ·rw [dR]at h
  have e1:=dI h.1;have e2:=dI h.2;subst e1 e2;rw [hx.of_flat rfl,hy.of_flat rfl]
 ·simp only [dR]at h
  have e1:=dI h.1.1;have e2:=dI h.1.2;have e3:=dI h.2.1;have e4:=dI h.2.2;subst e1 e2 e3 e4;rcases hx.mZ with ⟨L,c1,hL,rfl,⟨_,rfl⟩ | ⟨hs,_⟩⟩ | ⟨⟨_,hs⟩,_⟩
  ·rcases hy.mZ with ⟨M,c2,hM,rfl,⟨_,rfl⟩ | ⟨hs,_⟩⟩ | ⟨⟨_,hs⟩,_⟩
   ·rw [hL]at hM;injection hM with hM;subst hM;rfl
   ·cases hs
   ·cases hs
  ·cases hs
  ·cases hs
 ·have e1:=dI h
  subst e1;obtain⟨L,hL,rfl⟩:=hx.KE;obtain⟨M,hM,rfl⟩:=hy.KE;rw [hL]at hM;injection hM with hM;subst hM;rfl
 ·simp only [dR]at h
  have e1:=dI h.1.1;have e2:=dI h.1.2;have e3:=dI h.2.1;have e4:=dI h.2.2;subst e1 e2 e3 e4;rcases hx.mZ with ⟨L,c1,hL,rfl,⟨hs,_⟩ | ⟨_,_,_,q1,q2⟩⟩ | ⟨⟨_,hs⟩,_⟩
  ·cases hs
  ·rcases hy.mZ with ⟨M,c2,hM,rfl,⟨hs,_⟩ | ⟨_,_,_,q3,q4⟩⟩ | ⟨⟨_,hs⟩,_⟩
   ·cases hs
   ·rw [hL]at hM;injection hM with hM;subst hM
    have:c1*L.m=c2*L.m:=by omega
    rw [Nat.eq_of_mul_eq_mul_right q2 this]
   ·cases hs
  ·cases hs
 ·simp only [dR]at h
  have e1:=dI h.1.1;have e2:=dI h.1.2;have e3:=dI h.2;subst e1 e2 e3;cases hx with
  | flat h=>simp [bW]at h
  | DQ hs=>cases hy with
   | flat h=>simp [bW]at h
   | DQ uR=>rw [hs,uR]
 ·have e1:=dI h
  subst e1;rw [hx.aNG,hy.aNG]
 ·simp only [dR]at h
  have e1:=dI h.1;have e2:=dI h.2.1;have e3:=dI h.2.2;subst e1 e2 e3;obtain⟨L,hL,rfl⟩:=hx.aNH;obtain⟨M,hM,rfl⟩:=hy.aNH;rw [hL]at hM;injection hM with hM;subst hM;rfl
 ·have e1:=dI h
  subst e1;obtain⟨L,hL,rfl⟩:=hx.Vw;obtain⟨M,hM,rfl⟩:=hy.Vw;rw [hL]at hM;injection hM with hM;subst hM;rfl
 ·cases h
theorem Aq{U:Rn}{f:Value->Value->Bool} (hf:∀{a b x y:Value},f a b=true->VR U a x->VR U b y->x=y):∀{a b x y:List Value},KF f a b=true->lZ U a x->lZ U b y->x=y:=by
 intro a;induction a with
 | nil=>
  intro b x y h hx hy;cases b with
  | nil=>rw [hx.lE,hy.lE]
  | cons b l=>cases h
 | cons a l ih=>
  intro b x y h hx hy;cases b with
  | nil=>cases h
  | cons b m=>
   simp only [KF,dR]at h;obtain⟨a',l',rfl,h1,h2⟩:=hx.dM;obtain⟨b',m',rfl,h3,h4⟩:=hy.dM;rw [hf h.1 h1 h3,ih h.2 h2 h4]
theorem VR.aBq{U:Rn}{f:FuncId}{a c:List Value}{x:Value} (h:VR U (.func (.func f) ⟨a⟩ ⟨c⟩) x):∃a' c',x= .func (.func f) ⟨a'⟩ ⟨c'⟩/\lZ U a a'/\lZ U c c':=by
 cases h with
 | flat h=>simp [bW]at h
 | @func _ _ a' _ c' ha hc h1 h2=>exact⟨a'.toList,c'.toList,rfl,⟨by simpa using ha,h1⟩,⟨by simpa using hc,h2⟩⟩
theorem aBr{U:Rn}:∀(n:Nat) {a b x y:Value},Kf n a b=true->VR U a x->VR U b y->x=y:=by
 intro n;induction n with
 | zero=>intro a b x y h hx hy;exact Kh h hx hy
 | succ n ih=>
  intro a b x y h hx hy;unfold Kf at h;split at h
  ·rename_i heq;exact aX heq (by simp)
  ·simp only [dR]at h
   have e1:=dI h.1;subst e1;rename_i m _ _ _ _ _ _ hn;injection hn with hn;subst hn;obtain⟨a1,c1,rfl,h1,h2⟩:=hx.aBq;obtain⟨a2,c2,rfl,h3,h4⟩:=hy.aBq;rw [Aq (ih) h.2.1 h1 h3,Aq (ih) h.2.2 h2 h4]
  ·exact Kh h hx hy
theorem Ki{U:Rn}{a b x y:Value} (h:aBp a b=true) (hx:VR U a x) (hy:VR U b y):x=y:=aBr 3 h hx hy
theorem aBs{U:Rn}:∀{a b x y:List Value},Vv a b=true->lZ U a x->lZ U b y->x=y:=by
 intro a;induction a with
 | nil=>
  intro b x y h hx hy;cases b with
  | nil=>rw [hx.lE,hy.lE]
  | cons b l=>cases h
 | cons a l ih=>
  intro b x y h hx hy;cases b with
  | nil=>cases h
  | cons b m=>
   simp only [Vv,dR]at h;obtain⟨a',l',rfl,h1,h2⟩:=hx.dM;obtain⟨b',m',rfl,h3,h4⟩:=hy.dM;rw [Ki h.1 h1 h3,ih h.2 h2 h4]
theorem NQ{U:Rn}{a b x y:Value} (h:Kg a b=true) (hx:VR U a x) (hy:VR U b y):x=y:=by
 unfold Kg at h;split at h
 ·obtain⟨x',rfl,h1⟩:=hx.NH
  obtain⟨y',rfl,h2⟩:=hy.NH;rw [jF.1 (aBs h h1 h2)]
 ·exact Ki h hx hy
theorem Yu{U:Rn}:∀{a b x y:List Value},Ii a b=true->lZ U a x->lZ U b y->x=y:=by
 intro a;induction a with
 | nil=>
  intro b x y h hx hy;cases b with
  | nil=>rw [hx.lE,hy.lE]
  | cons b l=>cases h
 | cons a l ih=>
  intro b x y h hx hy;cases b with
  | nil=>cases h
  | cons b m=>
   simp only [Ii,dR]at h;obtain⟨a',l',rfl,h1,h2⟩:=hx.dM;obtain⟨b',m',rfl,h3,h4⟩:=hy.dM;rw [NQ h.1 h1 h3,ih h.2 h2 h4]
theorem aBt{U:Rn}{a b x y:Value} (h:UB a b=true) (hx:VR U a x) (hy:VR U b y):x=y:=by
 unfold UB at h;split at h
 ·obtain⟨x',rfl,h1⟩:=hx.QB
  obtain⟨y',rfl,h2⟩:=hy.QB;rw [jF.1 (Yu h h1 h2)]
 ·exact NQ h hx hy
def neutral (P:Program) (o:Oper):Bool:=rI P o || DW o
def leaves (ops:Array Oper) (o:Oper) (p:Nat):Bool:=match ops[p]?,o.dst with
 | some q,some d=> !(q.looksAt ops).contains d&&q.dst != some d
 | _,_=>true
def GE (ops:Array Oper) (o:Oper):Bool:=match o.dst with | some d=> !(o.looksAt ops).contains d | none=>true
def jI (ops:Array Oper) (p:Nat):Bool:=match ops[p]? with | some q=>DW q&&q.dst.isSome | none=>false
def aIq (P:Program) (ops:Array Oper):Nat->Array Bool->List Nat->Option (List (Nat×List Nat))
 | 0,listed,_=>match Region.ready .any ops listed with | []=>some [] | _=>none
 | f+1,listed,taken=>
  match Region.ready .any ops listed with
  | []=>some []
  | rs=>match rs.find? (fun i=>match ops[i]? with | some o=>neutral P o | none=>false)with
   | some i=>match ops[i]? with
    | some o=>match Region.free .any ops listed i&&GE ops o&&taken.all (leaves ops o)&&(rI P o || jI ops i)with
     | true=>(aIq P ops f (listed.setIfInBounds i true) (i::taken)).map ((i,[]):: ·)
     | false=>none
    | none=>none
   | none=>match rs with
    | [i]=>match ops[i]? with
     | some o=>match taken.all (leaves ops o)with
      | true=>(aIq P ops f (listed.setIfInBounds i true) (taken.filter fun p=> !dep ops i p)).map ((i,(taken.filter fun p=> !dep ops i p).filter (jI ops)):: ·)
      | false=>none
     | none=>none
    | _=>none
def LE (ops:Array Oper):Bool:=ops.toList.all fun o=>match o.op with | .select .. | .defer _=>false | _=>true
def zU (E:Env) (ops:Array Oper) (A:bA) (S:St) (l:List Nat) (k:Bool):Bool:=
 iD (β:=Bool) k (fun i _ ih=>match ops[i]? with
  | some o=>match o.dst with
   | some d=>YU A.tmps d fun u=>DO ops o A fun b=>gE b (AN E o A S fun v _=>match UB v u with | true=>ih | false=>false) (match u with | .tuple ⟨[]⟩=>ih | _=>false)
   | none=>false
  | none=>false) l
section
variable{E:Env}{w0:World}{ops:Array Oper}
theorem Ar (h:LE ops=true):Plain ops:=by
 intro j o ho
 have hm:o∈ops.toList:=by
  have:ops.toList[j]? =some o:=by simpa using ho
  exact BJ this
 have:=dL.1 h o hm;constructor
 ·intro cs b e;rw [e]at this;cases this
 ·intro c e;rw [e]at this;cases this
theorem yD{o:Oper}{p:Nat} (h:leaves ops o p=true){q:Oper} (hq:ops[p]? =some q):∀d,o.dst=some d->d∉q.looksAt ops/\q.dst≠some d:=by
 intro d hd;unfold leaves at h;rw [hq,hd]at h;simpa using h
theorem WW{o:Oper} (h:GE ops o=true):∀d,o.dst=some d->d∉o.looksAt ops:=by
 intro d hd;unfold GE at h;rw [hd]at h;simpa using h
end
section
variable{E:Env}{w0:World}{ops:Array Oper}
def Kn (P:Program) (ops:Array Oper) (a:Act) (w:World) (p:Nat×Value):Prop:=
 (∃o,ops[p.1]? =some o/\rI P o=true/\∀w,Yl P ops p.1 p.2 a w)\/(∃o d,ops[p.1]? =some o/\DW o=true/\Yl P ops p.1 p.2 a w/\o.dst=some d/\∀u,a.tmps.toList[d]? =some u->u=p.2)
theorem Kn.yl{P:Program}{a:Act}{w:World}{p:Nat×Value} (h:Kn P ops a w p):Yl P ops p.1 p.2 a w:=by
 rcases h with ⟨o,_,_,h⟩ | ⟨o,d,_,_,h,_⟩
 ·exact h w
 ·exact h
theorem uW{a:Act}{dst:Option Tmp}{v:Value}{d:Tmp} (h:dst≠some d):(a.put dst v).tmps.toList[d]? =a.tmps.toList[d]? :=by
 cases dst with
 | none=>rfl
 | some e=>
  have oX:e≠d:=fun q=>h (by rw [q]);show(a.tmps.setIfInBounds e v).toList[d]? =_;rw [Br,IP oX]
theorem HF{a:Act}{v:Value}{d:Tmp}:∀u,(a.put (some d) v).tmps.toList[d]? =some u->u=v:=by
 intro u hu;have hu:(a.tmps.setIfInBounds d v).toList[d]? =some u:=hu;rw [Br,List.getElem?_set_self']at hu;cases hx:a.tmps.toList[d]? with
 | none=>rw [hx]at hu;cases hu
 | some y=>rw [hx]at hu;simp at hu;exact hu.symm
theorem Cs{U:Rn}{A:bA}{a:Act}{S:St}{w:World} (hs:SR E.P w0 U A a S w):∀{l:List Nat} {k:Bool},zU E ops A S l k=true->(∀i∈l,jI ops i=true)->
 k=true/\∀i∈l,∃o d u',ops[i]? =some o/\o.dst=some d/\a.tmps.toList[d]? =some u'/\Yl E.P ops i u' a w:=by
 intro l;induction l with
 | nil=>intro k hk _;exact⟨hk,by simp⟩
 | cons i l ih=>
  intro k hk hl;unfold zU at hk;rw [bU]at hk;split at hk
  ·rename_i o ho
   split at hk
   ·rename_i d hd
    obtain⟨u,hu,hk⟩:=HU hk;obtain⟨u',hu',hr⟩:=hs.act.tmps.get hu;have hk:=SM hs.act hk
    have aBu:DW o=true:=by
     have:=hl i (.head _);unfold jI at this;rw [ho]at this;simp only [dR]at this;exact this.1
    have yA:zU E ops A S l k=true/\Yl E.P ops i u' a w:=by
     cases hw:Region.wanted o (yielded ops a.tmps)with
     | true=>
      rw [hw]at hk;have hk:AN E o A S (fun v _=>match UB v u with | true=>zU E ops A S l k | false=>false)=true:=hk;obtain⟨v,v',hk,hv,fU⟩:=Er hs.rel hs.act aBu hk;split at hk
      ·rename_i TW
       have:=aBt TW hv hr;subst this;exact⟨hk,o,ho,.inl ⟨hw,fU⟩⟩
      ·cases hk
     | false=>
      rw [hw]at hk;have hk:(match(generalizing:=false) u with | .tuple ⟨[]⟩=>zU E ops A S l k | _=>false)=true:=hk;split at hk
      ·obtain⟨x,rfl,hx⟩:=hr.QB
       have:x= #[]:=jF.1 (hx.lE);subst this;exact⟨hk,o,ho,.inr ⟨hw,rfl⟩⟩
      ·cases hk
    obtain⟨h1,h2⟩:=ih yA.1 fun j hj=>hl j (.tail _ hj);refine⟨h1,fun j hj=>?_⟩;cases hj with
    | head=>exact⟨o,d,u',ho,hd,hu',yA.2⟩
    | tail _ hj=>exact h2 j hj
   ·cases hk
  ·cases hk
end
def isTrue:Value->Bool
 | .bool b=>b
 | _=>false
def St.none (n:Nat):St:=⟨.leaf,n⟩
def Rn.globals (n:Nat):Rn:=fun i=>if i<n then some ⟨i,0,0,0⟩else none
theorem Rel.none{P:Program}{w:World} (hsz:P.globals.size<=w.heap.size):Rel P w (Rn.globals P.globals.size) (St.none P.globals.size) w:=by
 have xP:∀i,(St.none P.globals.size).obj i=Option.none:=fun i=>rfl
 have hr:∀i L,Rn.globals P.globals.size i=some L->i<P.globals.size/\L=⟨i,0,0,0⟩:=by
  intro i L h;unfold Rn.globals at h;split at h
  ·rename_i hi;injection h with h;exact⟨hi,h.symm⟩
  ·cases h
 have hf:∀{i o},(St.none P.globals.size).obj i=some o->False:=fun h=>nomatch (xP _).symm.trans h;refine⟨fun g hg=>⟨⟨g,0,0,0⟩,aK hg,rfl,rfl⟩,fun i o h=>(hf h).elim,fun i hi=>?_,fun i o h=>(hf h).elim,fun i L h=>?_,fun i j a b L M _ h=>(hf h).elim,fun j vs e olds h=>(hf h).elim,?_⟩
 ·have:P.globals.size<=i:=hi
  unfold Rn.globals;rw [aG (by omega)]
 ·obtain⟨h1,rfl⟩:=hr i L h
  show i<_;omega
 ·exact⟨rfl,rfl,rfl,bO _,fun _ _=>rfl⟩
structure EvW where
 f:bA->(Value->Bool)->Bool
def AY (x:Operand):EvW:=
 match x with
 | .tmp t=>⟨fun A k=>YU A.tmps t k⟩
 | .const v=>match kV v with | true=>⟨fun _ k=>k v⟩ | false=>⟨fun _ _=>false⟩
 | .global g=>⟨fun A k=>match Nat.blt g A.g with | true=>k (.pointer (some ⟨g,0,none⟩)) | false=>false⟩
 | .func f=>⟨fun _ k=>k (.func (.func f) #[] #[])⟩
theorem lH (A:bA) (x:Operand) (k:Value->Bool):(AY x).f A k=wA A x k:=by
 cases x with
 | const v=>unfold AY wA;simp only;cases kV v<;>rfl
 | _=>rfl
structure aQy where
 f:bA->(List Value->Bool)->Bool
def aDq (xs:List Operand):aQy:=iD (β:=aQy) ⟨fun _ k=>k []⟩ (fun x _ ih=>⟨fun A k=>(AY x).f A fun v=>ih.f A fun vs=>k (v::vs)⟩) xs
theorem Et (A:bA):∀(xs:List Operand) (k:List Value->Bool),(aDq xs).f A k=WC A xs k:=by
 intro xs;induction xs with
 | nil=>intro k;rfl
 | cons x xs ih=>
  intro k;show(AY x).f A (fun v=>(aDq xs).f A fun vs=>k (v::vs))=wA A x fun v=>WC A xs fun vs=>k (v::vs);rw [lH]
  congr 1
  funext v
  exact ih _
structure aSm where
 f:bA->(Option Value->Bool)->Bool
def aLR (x:Option Operand):aSm:=match x with | none=>⟨fun _ k=>k none⟩ | some x=>⟨fun A k=>(AY x).f A fun v=>k (some v)⟩
theorem aLS (A:bA) (x:Option Operand) (k:Option Value->Bool):(aLR x).f A k=Cj A x k:=by
 cases x with
 | none=>rfl
 | some x=>exact lH A x _
structure IbW where
 f:IntKind->Int->Int->(Value->Bool)->Bool
def aE5 (op:BinOp):IbW:=
 match op with
 | .add=>⟨fun k x y K=>OY k (Int.add x y) K⟩
 | .sub=>⟨fun k x y K=>OY k (Int.sub x y) K⟩
 | .mul=>⟨fun k x y K=>OY k (Int.mul x y) K⟩
 | .eql=>⟨fun _ x y K=>oY (eqI x y) K⟩
 | .neq=>⟨fun _ x y K=>oY (!eqI x y) K⟩
 | .lss=>⟨fun _ x y K=>oY (ltI x y) K⟩
 | .leq=>⟨fun _ x y K=>oY (!ltI y x) K⟩
 | .gtr=>⟨fun _ x y K=>oY (ltI y x) K⟩
 | .geq=>⟨fun _ x y K=>oY (!ltI x y) K⟩
 | op=>⟨fun k x y K=>RT op k x y K⟩
theorem aDr (op:BinOp) (k:IntKind) (x y:Int) (K:Value->Bool):(aE5 op).f k x y K=RT op k x y K:=by cases op<;>rfl
structure BnW where
 f:TypeId->Value->Value->(Value->Bool)->Bool
def aLT (P:Program) (op:BinOp):BnW:=
 match op with
 | .shl=>⟨fun t a b K=>Ci P .shl t a b K⟩
 | .shr=>⟨fun t a b K=>Ci P .shr t a b K⟩
 | op=>⟨fun t a b K=>match a,b with
  | .int k x,.int k' y=>match FW k k' with | true=>(aE5 op).f k x y K | false=>false
  | a,b=>Ci P op t a b K⟩
theorem aE6 (P:Program) (op:BinOp) (t:TypeId) (a b:Value) (K:Value->Bool):(aLT P op).f t a b K=Ci P op t a b K:=by
 cases op<;>first
  | rfl
  | (simp only [aLT]
     split
     ·rw [aDr];rfl
     ·rfl)
structure BiW where
 f:List TypeId->List Value->St->VK->Bool
def aBv (P:Program) (b:Builtin):BiW:=
 match b with
 | .append=>⟨fun ts args S K=>match args with | [s,x]=>RW P ts s x S K | _=>false⟩
 | .copy=>⟨fun ts args S K=>match args with | [d,s]=>Vl P ts d s S K | _=>false⟩
 | b=>⟨fun ts args S K=>oZ P b ts args S K⟩
theorem aBw (P:Program) (b:Builtin) (ts:List TypeId) (args:List Value) (S:St) (K:VK):(aBv P b).f ts args S K=oZ P b ts args S K:=by
 cases b<;>first
  | rfl
  | (match args with
     | []=>rfl
     | [_]=>rfl
     | [_,_]=>rfl
     | _::_::_::_=>rfl)
structure OpW where
 f:Env->bA->St->VK->Bool
def WX (P:Program) (c:Call):OpW:=
 match c.callee with
 | .builtin b=>⟨fun _ A S K=>(aDq c.args.toList).f A fun args=>(aBv P b).f c.argTypes.toList args S K⟩
 | .value f=>⟨fun E A S K=>(aDq c.args.toList).f A fun args=>(AY f).f A fun f=>match f with
  | .func (.func g) first captured=>FV first.toList args fun l=>FV l captured.toList fun l=>E.call g l S K
  | .func (.yield l) first captured=>match first.toList,captured.toList with
   | [],[]=>E.round l args S K
   | _,_=>false
  | _=>false⟩
 | .invoke r m=>⟨fun E A S K=>(aDq c.args.toList).f A fun args=>(AY r).f A fun v=>match v with
  | .iface t x=>match KX P t m with
   | some g=>E.call g (x::args) S K
   | none=>false
  | _=>false⟩
theorem DX (E:Env) (c:Call) (A:bA) (S:St) (K:VK):(WX E.P c).f E A S K=nF E A c S K:=by
 unfold WX nF;cases c.callee with
 | builtin b=>simp only [Et,aBw]<;>rfl
 | value f=>simp only [Et,lH]<;>rfl
 | invoke r m=>simp only [Et,lH]<;>rfl
def opW (P:Program) (o:Oper):OpW:=
 match o.op with
 | .move x=>⟨fun _ A S K=>(AY x).f A fun v=>K v S⟩
 | .assign x=>⟨fun _ A S K=>(AY x).f A fun v=>K v S⟩
 | .load t a=>⟨fun _ A S K=>(AY a).f A fun a=>PT P t a S K⟩
 | .store t a x=>⟨fun _ A S K=>(AY a).f A fun a=>(AY x).f A fun x=>Ch P t a x S fun S=>K undef S⟩
 | .pick c a b=>⟨fun _ A S K=>(AY c).f A fun c=>(AY a).f A fun a=>(AY b).f A fun b=>match c with
  | .bool true=>K a S
  | .bool false=>K b S
  | _=>false⟩
 | .box t x=>⟨fun _ A S K=>(AY x).f A fun v=>aA4 t v S K⟩
 | .nilCheck x=>⟨fun _ A S K=>(AY x).f A fun v=>match v with
  | .pointer (some a)=>K (.pointer (some a)) S
  | .func (.func f) a b=>K (.func (.func f) a b) S
  | .func (.yield f) a b=>K (.func (.yield f) a b) S
  | .func (.method s) ⟨[.iface t w]⟩ ⟨[]⟩=>match KX P t s with
   | some _=>K (.func (.method s) ⟨[.iface t w]⟩ ⟨[]⟩) S
   | none=>false
  | .iface t w=>K (.iface t w) S
  | _=>false⟩
 | .binOp op t x y _=>⟨fun _ A S K=>(AY x).f A fun a=>(AY y).f A fun b=>(aLT P op).f t a b fun v=>K v S⟩
 | .unOp op _ x=>⟨fun _ A S K=>(AY x).f A fun a=>unK op a fun v=>K v S⟩
 | .convert s d x=>⟨fun _ A S K=>(AY x).f A fun a=>Jw P s d a S K⟩
 | .slice t x lo hi mx=>match mx,hi with
  | some _,none=>⟨fun _ _ _ _=>false⟩
  | mx,hi=>⟨fun _ A S K=>(AY x).f A fun x=>(aLR lo).f A fun lo=>(aLR hi).f A fun hi=>(aLR mx).f A fun mx=>vI P t x lo hi mx S fun v=>K v S⟩
 | .fieldAddr s x f=>⟨fun _ A S K=>(AY x).f A fun x=>FY P s x f fun v=>K v S⟩
 | .field t x f=>⟨fun _ A S K=>(AY x).f A fun x=>WD P t x f fun v=>K v S⟩
 | .indexAddr t x ix=>⟨fun _ A S K=>(AY x).f A fun x=>(AY ix).f A fun ix=>FX P t x ix fun v=>K v S⟩
 | .index t x ix=>⟨fun _ A S K=>(AY x).f A fun x=>(AY ix).f A fun ix=>Ib P t x ix fun v=>K v S⟩
 | .extract t i=>⟨fun _ A S K=>(AY t).f A fun v=>match v with
  | .tuple vs=>ZS vs.toList i fun v=>K v S
  | _=>false⟩
 | .call c=>WX P c
 | _=>⟨fun E A S K=>AN E o A S K⟩
theorem GF (E:Env) (o:Oper) (A:bA) (S:St) (K:VK):(opW E.P o).f E A S K=AN E o A S K:=by
 unfold opW;split
 all_goals (rename_i h)
 all_goals first
  | rfl
  | (unfold AN;rw [h];simp only [lH,aE6,DX]<;>rfl)
  | (unfold AN;rw [h];simp only;split<;>first | rfl | (simp only [lH,aLS]<;>rfl))
abbrev KS:=bA->St->Bool
structure Ps where
 f:Env->bA->St->KS->Bool
def aOx (d:Option Tmp) (v:Value) (A:bA) (k:bA->Bool):Bool:=
 match d with
 | some d=>uU v A.tmps d fun ts=>k ⟨ts,A.marks,A.g⟩
 | none=>k A
def aE7 (P:Program) (o:Oper):Ps:=
 match o.dst with
 | some d=>⟨fun E A S k=>(opW P o).f E A S fun v S=>uU v A.tmps d fun ts=>k ⟨ts,A.marks,A.g⟩ S⟩
 | none=>⟨fun E A S k=>(opW P o).f E A S fun _ S=>k A S⟩
def aIr (o:Oper):Ps:=
 match o.dst with
 | some d=>⟨fun _ A S k=>uU undef A.tmps d fun ts=>k ⟨ts,A.marks,A.g⟩ S⟩
 | none=>⟨fun _ A S k=>k A S⟩
structure GdW where
 f:bA->(Bool->Bool)->Bool
def aBx (ops:Array Oper) (o:Oper):GdW:=
 match o.guard with
 | none=>⟨fun _ k=>k true⟩
 | some (j,want)=>match ops[j]? with
  | some o'=>match o'.dst with
   | some d=>⟨fun A k=>YU A.tmps d fun v=>match v with
    | .bool b=>match b,want with | true,true | false,false=>k true | _,_=>k false
    | _=>k false⟩
   | none=>⟨fun _ k=>k false⟩
  | none=>⟨fun _ k=>k false⟩
def doW (P:Program) (ops:Array Oper) (o:Oper):Ps:=
 match o.guard with
 | none=>aE7 P o
 | some _=>⟨fun E A S k=>(aBx ops o).f A fun b=>gE b ((aE7 P o).f E A S k) ((aIr o).f E A S k)⟩
theorem aBy (E:Env) (o:Oper) (A:bA) (S:St) (k:KS):(aE7 E.P o).f E A S k=AN E o A S fun v S=>mV A o.dst v fun A=>k A S:=by
 unfold aE7 mV;cases o.dst<;>simp only [GF]
theorem aIs (E:Env) (o:Oper) (A:bA) (S:St) (k:KS):(aIr o).f E A S k=mV A o.dst undef fun A=>k A S:=by
 unfold aIr mV;cases o.dst<;>rfl
theorem aBz (ops:Array Oper) (o:Oper) (A:bA) (k:Bool->Bool):(aBx ops o).f A k=DO ops o A k:=by
 unfold aBx DO;cases o.guard with
 | none=>rfl
 | some jw=>
  obtain⟨j,want⟩:=jw;simp only;cases ops[j]? with
  | none=>rfl
  | some o'=>
   simp only;cases o'.dst<;>rfl
theorem aDs (E:Env) (ops:Array Oper) (o:Oper) (A:bA) (S:St) (k:KS):(doW E.P ops o).f E A S k=Ck E ops o A S k:=by
 unfold doW Ck;cases hg:o.guard with
 | none=>
  simp only [aBy];unfold DO;rw [hg];rfl
 | some _=>simp only [aBy,aIs,aBz]
def aOy (P:Program) (ops:Array Oper) (l:List Oper):Ps:=
 iD (β:=Ps) ⟨fun _ A S k=>k A S⟩ (fun o _ ih=>⟨fun E A S k=>(doW P ops o).f E A S fun A S=>ih.f E A S k⟩) l
theorem aLU (E:Env) (ops:Array Oper):∀(l:List Oper) (A:bA) (S:St) (k:KS),(aOy E.P ops l).f E A S k=ZT E ops l A S k:=by
 intro l;induction l with
 | nil=>intro A S k;rfl
 | cons o l ih=>
  intro A S k;show(doW E.P ops o).f E A S (fun A S=>(aOy E.P ops l).f E A S k)=Ck E ops o A S fun A S=>ZT E ops l A S k;rw [aDs]
  congr 1
  funext A S
  exact ih A S k
structure ChW where
 f:Env->bA->St->Bool->Bool
def aDt (P:Program) (ops:Array Oper) (l:List Nat):ChW:=
 iD (β:=ChW) ⟨fun _ _ _ k=>k⟩ (fun i _ ih=>match ops[i]? with
  | some o=>match o.dst with
   | some d=>⟨fun E A S k=>YU A.tmps d fun u=>(aBx ops o).f A fun b=>gE b ((opW P o).f E A S fun v _=>match UB v u with | true=>ih.f E A S k | false=>false) (match u with | .tuple ⟨[]⟩=>ih.f E A S k | _=>false)⟩
   | none=>⟨fun _ _ _ _=>false⟩
  | none=>⟨fun _ _ _ _=>false⟩) l
theorem aGM (P:Program) (ops:Array Oper) (i:Nat) (l:List Nat):aDt P ops (i::l)=match ops[i]? with
 | some o=>match o.dst with
  | some d=>⟨fun E A S k=>YU A.tmps d fun u=>(aBx ops o).f A fun b=>gE b ((opW P o).f E A S fun v _=>match UB v u with | true=>(aDt P ops l).f E A S k | false=>false) (match u with | .tuple ⟨[]⟩=>(aDt P ops l).f E A S k | _=>false)⟩
  | none=>⟨fun _ _ _ _=>false⟩
 | none=>⟨fun _ _ _ _=>false⟩:=rfl
theorem Ij (E:Env) (ops:Array Oper) (A:bA) (S:St) (i:Nat) (l:List Nat) (k:Bool):zU E ops A S (i::l) k=match ops[i]? with
 | some o=>match o.dst with
  | some d=>YU A.tmps d fun u=>DO ops o A fun b=>gE b (AN E o A S fun v _=>match UB v u with | true=>zU E ops A S l k | false=>false) (match u with | .tuple ⟨[]⟩=>zU E ops A S l k | _=>false)
  | none=>false
 | none=>false:=rfl
theorem aE8 (E:Env) (ops:Array Oper) (A:bA) (S:St) (k:Bool):∀(l:List Nat),(aDt E.P ops l).f E A S k=zU E ops A S l k:=by
 intro l;induction l with
 | nil=>rfl
 | cons i l ih=>
  rw [aGM,Ij];cases ops[i]? with
  | none=>rfl
  | some o=>
   simp only;cases o.dst with
   | none=>rfl
   | some d=>simp only [GF,aBz,ih]<;>rfl
structure CdW where
 f:Env->Option Nat->bA->St->Cl->Bool
structure FnW where
 f:Env->List Value->St->VK->Bool
section
variable{P:Program}{w0:World}{U:Rn}{S:St}{w:World}
theorem Rel.Vx (h:Rel P w0 U S w) (o:jD) (L:Loc) (hlt:L.b<w.heap.size) (JH:∀i M,U i=some M->M.b≠L.b)
 (ho:∀U':Rn,Ext U U'->U' S.n=some L->IV P w0 U' w S.n o) (xP:o.olds=[]):
 Rel P w0 (U.put S.n L) (S.new o) w:=by
 have TX:=h.dom S.n (bO _);have he:Ext U (U.put S.n L):=Rn.SI TX
 have wB:∀j M,U.put S.n L j=some M->(j=S.n/\M=L)\/(j≠S.n/\U j=some M):=fun j M hj=>by
  unfold Rn.put at hj;by_cases e:j=S.n
  ·rw [aK e]at hj;injection hj with hj;exact .inl ⟨e,hj.symm⟩
  ·rw [aG e]at hj;exact .inr ⟨e,hj⟩
 have vJ:∀j x,(S.new o).obj j=some x->(j=S.n/\x=o)\/(j≠S.n/\S.obj j=some x):=fun j x hx=>by
  rw [YY]at hx;by_cases e:j=S.n
  ·rw [aK e]at hx;injection hx with hx;exact .inl ⟨e,hx.symm⟩
  ·rw [aG e]at hx;exact .inr ⟨e,hx⟩
 refine⟨fun g hg=>let⟨M,h1,h2⟩:=h.Pe g hg;⟨M,he _ _ h1,h2⟩,fun j x hx=>?_,fun j hj=>?_,fun j x hx=>?_,fun j M hj=>?_,fun i j a b M N Tt ha hb hda hdb hM hN Tq=>?_,fun j vs e olds hj i hi=>?_,h.base⟩
 ·rcases vJ j x hx with ⟨e,ex⟩ | ⟨e,hx⟩
  ·subst e ex;exact ho _ he (Rn.mW _ _ _)
  ·exact(h.PB j x hx).frame he fun M hM=>rfl
 ·have Yn:S.n+1<=j:=hj
  unfold Rn.put;rw [aG (by omega)];exact h.dom j (by omega)
 ·rcases vJ j x hx with ⟨e,_⟩ | ⟨_,hx⟩
  ·subst e;exact xR _
  ·exact sS (h.lt j x hx)
 ·rcases wB j M hj with ⟨_,e⟩ | ⟨_,hM⟩
  ·subst e;exact hlt
  ·exact h.loc j M hM
 ·rcases wB i M hM with ⟨ei,eM⟩ | ⟨ei,DH⟩<;>rcases wB j N hN with ⟨ej,eN⟩ | ⟨ej,hN'⟩
  ·omega
  ·rw [eM]at Tq;exact aX Tq.symm (JH j N hN')
  ·rw [eN]at Tq;exact aX Tq (JH i M DH)
  ·rcases vJ i a ha with ⟨e,_⟩ | ⟨_,ha'⟩
   ·exact aX e ei
   ·rcases vJ j b hb with ⟨e,_⟩ | ⟨_,TV⟩
    ·exact aX e ej
    ·exact h.sep i j a b M N Tt ha' TV hda hdb DH hN' Tq
 ·rcases vJ j _ hj with ⟨e1,e2⟩ | ⟨e1,Yn⟩
  ·subst e2;rw [show olds=[]from xP]at hi;cases hi
  ·obtain⟨h1,h2⟩:=h.old j vs e olds Yn i hi
   refine⟨sS h1,fun x hx=>?_⟩;rcases vJ i x hx with ⟨e3,_⟩ | ⟨e3,Mx⟩
   ·omega
   ·rcases h2 x Mx with h3 | ⟨ws,e',h3,h4⟩
    ·exact .inl h3
    ·refine .inr ⟨ws,e',h3,fun L1 M hL1 hM hb=>?_⟩
     rcases wB _ _ hL1 with ⟨e4,_⟩ | ⟨_,aOv⟩
     ·exact aX e4 e1
     ·rcases wB _ _ hM with ⟨e5,_⟩ | ⟨_,DH⟩
      ·exact aX e5 e3
      ·exact h4 L1 M aOv DH hb
theorem xZ.Vx{U0:Rn}{wa:World} (h:xZ U0 wa U w) (hn:U S.n=none){L:Loc} (hL:wa.heap.size<=L.b):xZ U0 wa (U.put S.n L) w:=by
 refine⟨h.ext.trans (Rn.SI hn),h.fr,fun i M hi=>?_⟩;unfold Rn.put at hi;by_cases e:i=S.n
 ·rw [aK e]at hi;injection hi with hi;subst hi;exact .inr (.inl hL)
 ·rw [aG e]at hi;exact h.nw i M hi
structure Mk (P:Program) (w0:World) (U:Rn) (S:St) (s:Sem Go.Next) (v:Value) (o:jD) (ob:Obj) (mk:Nat->Value):Prop where
 run:∀w,s.run P w= .ok (.value (mk w.heap.size)) (w.alloc ob)
 olds:o.olds=[]
 val:∀(U':Rn) (b:Nat),Ext U U'->(∃L,U' S.n=some L/\L.b=b/\L.s=0)->VR U' v (mk b)
 obj:∀(b:Nat),w0.heap.size<=b->∃L:Loc,L.b=b/\L.s=0/\∀(U':Rn) (w:World),Ext U U'->U' S.n=some L->w.heap[b]? =some ob->IV P w0 U' w S.n o
theorem Mk.cells{s:Sem Go.Next}{cs cs':List Value} (wL:lZ U cs cs') (t:TypeId){v:Value}{mk:Nat->Value} (hr:∀w,s.run P w= .ok (.value (mk w.heap.size)) (w.alloc (.cells ⟨cs'⟩ t)))
 (hv:∀(U':Rn) (b:Nat),Ext U U'->(∃L,U' S.n=some L/\L.b=b/\L.s=0)->VR U' v (mk b)):Mk P w0 U S s v (.cells cs t .exact) (.cells ⟨cs'⟩ t) mk:=by
 refine⟨hr,rfl,hv,fun b hb=>⟨⟨b,0,cs'.length,0⟩,rfl,rfl,fun U' w he hU' hw=>⟨_,⟨cs'⟩,t,(0,0),hU',hw,fun j v hj=>?_,?_⟩⟩⟩
 ·obtain⟨v',PY,hr⟩:=wL.get hj
  exact⟨v',by simpa using PY,hr.mono he⟩
 ·exact⟨hb,rfl,wL.1.symm,fun x _ hx=>by simp at hx,rfl⟩
end
section
variable{P:Program}{w0:World}{U:Rn}{S:St}{w:World}
def KG (o:Oper):Bool:=match o.op with | .buildSlice .. | .box .. | .alloc _ | .makeSlice .. | .makeMap _ none=>true | _=>false
def WY (P:Program) (w0:World) (U:Rn) (S:St) (K:VK) (s:Sem Go.Next):Prop:=∃v o ob mk,K v (S.new o)=true/\Mk P w0 U S s v o ob mk
theorem WY.ptr{s:Sem Value}{K:VK}{cs cs':List Value}{t:TypeId} (wL:lZ U cs cs') (hk:zT S (.cells cs t .exact) (fun i S=>K (.pointer (some ⟨i,0,none⟩)) S)=true)
 (hr:∀w,s.run P w= .ok (.pointer (some ⟨w.heap.size,0,none⟩)) (w.alloc (.cells ⟨cs'⟩ t))):WY P w0 U S K (do pure (.value (<-s))):=by
 rw [jH]at hk;refine⟨_,_,_,fun b=> .pointer (some ⟨b,0,none⟩),hk,Mk.cells wL t (fun w=>by rw [cR,hr];rfl) fun U' b _ ⟨L,hL,hb,hs⟩=> .aOc hL hb hs⟩
theorem WY.row{s:Sem Value}{K:VK}{cs cs':List Value}{t:TypeId}{n c:Nat} (wL:lZ U cs cs') (hk:zT S (.cells cs t .exact) (fun i S=>K (.slice (some ⟨i,0,none⟩) n c) S)=true)
 (hr:∀w,s.run P w= .ok (.slice (some ⟨w.heap.size,0,none⟩) n c) (w.alloc (.cells ⟨cs'⟩ t))):WY P w0 U S K (do pure (.value (<-s))):=by
 rw [jH]at hk;refine⟨_,_,_,fun b=> .slice (some ⟨b,0,none⟩) n c,hk,Mk.cells wL t (fun w=>by rw [cR,hr];rfl) fun U' b _ ⟨L,hL,hb,hs⟩=> .Oy hL hb hs n c⟩
theorem WY.lost{s:Sem Value}{K:VK}{ob:Obj}{n c:Nat} (hk:zT S .dead (fun i S=>K (.slice (some ⟨i,0,none⟩) n c) S)=true)
 (hr:∀w,s.run P w= .ok (.slice (some ⟨w.heap.size,0,none⟩) n c) (w.alloc ob)):WY P w0 U S K (do pure (.value (<-s))):=by
 rw [jH]at hk;refine⟨_,_,_,fun b=> .slice (some ⟨b,0,none⟩) n c,hk,fun w=>by rw [cR,hr];rfl,rfl,fun U' b _ ⟨L,hL,hb,hs⟩=> .Oy hL hb hs n c,fun b _=>⟨⟨b,0,0,0⟩,rfl,rfl,fun _ _ _ _ _=>trivial⟩⟩
end
section
variable{P:Program}{w0:World}{U:Rn}{S:St}{w:World}
theorem aLV{t:TypeId}{x x':Value}{K:VK} (hk:aA4 t x S K=true) (hx:VR U x x'):WY P w0 U S K (do pure (.value (<-Instr.box t x'))):=by
 unfold aA4 at hk;obtain⟨cs,hk,_,wL,_⟩:=HB hk hx;exact WY.ptr wL hk fun w=>by simp [Instr.box,newVar,newRow]
theorem aGN{t:TypeId}{K:VK} (hk:WE P t S K=true):WY P w0 U S K (do pure (.value (<-Instr.alloc t true (.tuple #[])))):=by
 unfold WE at hk;split at hk
 ·rename_i zero hz
  split at hk
  ·rename_i Jz
   rw [aE2]at hk;have Vm:lZ U zero zero:= .flat (by rw [nG]at Jz;exact dL.1 Jz);refine WY.ptr Vm hk fun w=>?_;obtain⟨zv,If,Tf⟩:=GA hz w;have ez:zv.cells=⟨zero⟩:=jF.1 Tf;simp [Instr.alloc,If,newVar,newRow,ez]
  ·cases hk
 ·cases hk
theorem Ue{t:TypeId}{l l' c c':Value}{K:VK} (hk:xW P t l c S K=true) (hl:VR U l l') (hc:VR U c c'):WY P w0 U S K (do pure (.value (<-Instr.makeSlice t l' c'))):=by
 unfold xW at hk;split at hk
 ·rename_i k1 l k2 c
  rw [hl.of_flat rfl,hc.of_flat rfl];split at hk
  ·rename_i elem he
   have hu:=gJ he;split at hk
   ·rename_i info zero hi hz
    split at hk
    ·rename_i q h1 h2 h3 h4 h5
     have h1:=cG h1;have h2:=cG h2;have h3:=cG h3;have h4:=dI h4;split at hk
     ·rename_i Jz
      obtain⟨zv,hzi,Tf⟩:=Oz hz hi;have oX:zero≠[]:=by intro e;rw [e]at h4;simp at h4;omega
      have Yh:=PZ zero zv.cells Tf c oX
      have h2':(info.bytes:Int)*(c:Int)<=1099511627776:=by
       have:((info.bytes*c:Nat):Int)<=1099511627776:=by omega
       rwa [Int.natCast_mul]at this
      have hm:madeCells zv.cells (c*info.size)=⟨(List.replicate c zero).flatten⟩:=by rw [<-Yh,h4];rfl
      have hr:∀w,(Instr.makeSlice t (.int k1 (.ofNat l)) (.int k2 (.ofNat c))).run P w= .ok (.slice (some ⟨w.heap.size,0,none⟩) l c) (w.alloc (.cells ⟨(List.replicate c zero).flatten⟩ elem)):=fun w=>by
       have hr:=run_make (P:=P) w t elem info zv hu hi hzi k1 k2 l c (by omega) (by omega) (by omega) (by omega);simp only [Xq]at hr;rw [hm]at hr;exact hr
      split at hk
      ·rw [HD]at hk
       have Vm:lZ U zero zero:= .flat (by rw [nG]at Jz;exact dL.1 Jz);exact WY.row (Vm.flatten c) hk hr
      ·exact WY.lost hk hr
     ·cases hk
    ·cases hk
   ·cases hk
  ·cases hk
 ·cases hk
theorem Pt (h:Rel P w0 U S w){A:bA}{a:Act} (hA:BR P U A a){t:TypeId}{len:Nat}{parts:Array (Nat×Operand)}{K:VK} (hk:CH P A t len parts.toList S K=true):
 WY P w0 U S K (do pure (.value (<-Instr.buildSlice t len (parts.map fun p=>(p.1,a.eval p.2))))):=by
 unfold CH at hk;split at hk
 ·rename_i elem he
  have hu:=gJ he;split at hk
  ·rename_i size zero hsz hz
   split at hk
   ·rename_i h1 h2
    have h1:=cG h1;have h2:=dI h2;split at hk
    ·rename_i Jz
     have Vm:lZ U zero zero:= .flat (by rw [nG]at Jz;exact dL.1 Jz);rw [HD]at hk;obtain⟨ps,hk,WG⟩:=KD h hA hk;obtain⟨out,Tp,g1,g2,g3,_⟩:=NI (place':=fun i=>some (i*(size+1),size+1)) (cells':=⟨(List.replicate len zero).flatten⟩) (by intro i q hq;exact hq) hk WG (Vm.flatten len);refine WY.row g3 g1 fun w=>?_;obtain⟨zv,If,Tf⟩:=GA hz w;have oX:zero≠[]:=by intro e;rw [e]at h2;simp at h2
     have e2:(parts.map fun p=>(p.1,a.eval p.2)).toList=parts.toList.map fun p=>(p.1,a.eval p.2):=by simp
     have hc:¬len*(size+1)>2 ^ 24:=by omega
     by_cases h0:len*(size+1)=0
     ·have hl0:len=0:=by
       rcases Nat.mul_eq_zero.1 h0 with h0 | h0
       ·exact h0
       ·omega
      subst hl0;have e3:(⟨(List.replicate 0 zero).flatten⟩:Array Value)= #[]:=by simp
      rw [e3]at g2;have e4:∀f:Nat->Value,(Array.range 0).map f= #[]:=fun f=>by simp
      simp only [Instr.buildSlice,cR,run_underlying hu,eL,jG hsz,VY,e4,e2,g2,newRow];rfl
     ·have Yh:=PZ zero zv.cells Tf len oX
      rw [h2]at Yh;simp only [Instr.buildSlice,cR,run_underlying hu,eL,jG hsz,aG hc,aG h0,If,kR,Yh,e2,g2,newRow];rfl
    ·cases hk
   ·cases hk
  ·cases hk
 ·cases hk
theorem aBA{t:TypeId}{K:VK} (hk:zT S (.map [] 0) (fun i S=>K (.map (some i)) S)=true):WY P w0 U S K (do pure (.value (<-Instr.makeMap t none))):=by
 rw [jH]at hk;refine⟨_,.map [] 0,.map #[] 0,fun b=> .map (some b),hk,⟨fun w=>by simp [Instr.makeMap,newObj];rfl,rfl,fun U' b _ ⟨L,hL,hb,_⟩=>hb▸ .map hL,fun b hb=>⟨⟨b,0,0,0⟩,rfl,rfl,fun U' w he hU' hw=>⟨_,#[],hU',hb,hw,⟨rfl,by simp⟩⟩⟩⟩⟩
end
section
variable{E:Env}{w0:World}{U:Rn}{S:St}{w:World}
theorem Ct (h:Rel E.P w0 U S w){A:bA}{a:Act} (hA:BR E.P U A a){o:Oper} (hp:KG o=true){K:VK} (hk:AN E o A S K=true):WY E.P w0 U S K (execOp a.eval o):=by
 unfold AN at hk;unfold execOp;unfold KG at hp;split at hk<;>first | (cases hk;done) | skip
 all_goals (rename_i Pl;rw [Pl]at hp;first | (cases hp;done) | skip)
 all_goals (simp only [Pl])
 ·exact aGN hk
 ·obtain⟨x,hk,hx⟩:=aT h hA hk
  exact aLV hk hx
 ·exact Pt h hA hk
 ·exact aBA hk
 ·obtain⟨x,hk,hx⟩:=aT h hA hk
  obtain⟨y,hk,hy⟩:=aT h hA hk;exact Ue hk hx hy
end
namespace Tr
variable{α:Type}
def del:Tr α->Nat->Tr α
 | leaf,_=>leaf
 | node v l r,n=>if n=0 then node none l r else if n%2=1 then node v (l.del (n / 2)) r else node v l (r.del (n / 2-1))
end Tr
def aIt{α:Type} (t:Tr α) (n:Nat) (k:Tr α->Bool):Bool:=
 aQj (β:=Nat->(Tr α->Bool)->Bool) (fun _ k=>k .leaf) (fun v l r dl dr n k=>pW n (k (.node none l r)) fun p=>pW (Nat.mod p 2) (dl (Nat.div p 2) fun c=>k (.node v c r)) fun _=>dr (Nat.div p 2) fun c=>k (.node v l c)) t n k
theorem aE9{α:Type} (t:Tr α):∀(n:Nat) (k:Tr α->Bool),aIt t n k=k (t.del n):=by
 induction t with
 | leaf=>intro n k;rfl
 | node v l r il ir=>
  intro n k;cases n with
  | zero=>rfl
  | succ p=>
   show pW (p%2) (aIt l (p / 2) fun c=>k (.node v c r)) (fun _=>aIt r (p / 2) fun c=>k (.node v l c))=_;rw [il,ir];have aIu:p+1≠0:=by omega
   simp only [Tr.del,aG aIu];rcases Nat.mod_two_eq_zero_or_one p with h | h
   ·rw [h,aK (by omega),show(p+1) / 2=p / 2 by omega];rfl
   ·rw [h,aG (by omega),show(p+1) / 2-1=p / 2 by omega];rfl
theorem Eu{α:Type} (t:Tr α):∀(n m:Nat),(t.del n).get m=if m=n then none else t.get m:=by
 induction t with
 | leaf=>intro n m;show none=_;split<;>rfl
 | node v l r il ir=>
  intro n m;by_cases h0:n=0
  ·subst h0
   by_cases hm:m=0<;>simp [Tr.del,Tr.get,hm]
  ·by_cases h1:n%2=1
   ·simp only [Tr.del,aG h0,aK h1,Tr.get]
    by_cases hm:m=0
    ·subst hm;simp [aN h0]
    ·by_cases h2:m%2=1
     ·simp only [aG hm,aK h2,il]
      by_cases e:m=n
      ·simp [e]
      ·rw [aG e,aG (by omega)]
     ·simp only [aG hm,aG h2]
      rw [aG (by omega)]
   ·simp only [Tr.del,aG h0,aG h1,Tr.get]
    by_cases hm:m=0
    ·subst hm;simp [aN h0]
    ·by_cases h2:m%2=1
     ·simp only [aG hm,aK h2]
      rw [aG (by omega)]
     ·simp only [aG hm,aG h2,ir]
      by_cases e:m=n
      ·simp [e]
      ·rw [aG e,aG (by omega)]
def aIv (o:Oper):Bool:=match o.op with | .assign _=>true | _=>false
def Pu (P:Program) (o:Oper):Bool:=o.guard.isNone&&(o.dst.isSome&&((rI P o&& !aIv o) || KG o))
def Ik (P:Program) (o:Oper):Option Tmp:=match o.op with
 | .convert s d (.tmp t)=>match P.underlying s,P.underlying d with
  | some (.slice e),some .string=>match P.underlying e with
   | some (.int .u8)=>some t
   | _=>none
  | _,_=>none
 | _=>none
def LF (o:Oper):Bool:=match o.op with | .makeSlice .. =>true | _=>false
def fD (P:Program) (ops:Array Oper) (i:Nat):Option Nat:=match ops[i]? with
 | some o=>match Ik P o with
  | some t=>match o.guard.isNone&&o.dst.isSome with
   | true=>(List.range ops.size).find? fun j=>match ops[j]? with | some q=>LF q&&(q.guard.isNone&&(q.dst==some t&&dep ops i j)) | none=>false
   | false=>none
  | none=>none
 | none=>none
def IW (P:Program) (ops:Array Oper) (j:Nat):Bool:=(match ops[j]? with | some q=>LF q | none=>false)&&(List.range ops.size).any fun i=>fD P ops i==some j
def lP (P:Program) (ops:Array Oper) (i:Nat):Bool:=match ops[i]? with | some o=>Pu P o || (fD P ops i).isSome | none=>false
def NS (ops:Array Oper) (t:Array Bool) (i:Nat):Bool:=match ops[i]? with
 | some o=> !(t.getD i true)&&o.after.toList.all fun e=> !Region.binds .any e || t.getD e.on false
 | none=>false
def LG (P:Program) (ops:Array Oper):List Nat->Array Bool->List Nat->Array Bool×List Nat
 | [],t,l=>(t,l)
 | i::is,t,l=>match lP P ops i&&NS ops t i with
  | true=>LG P ops is (t.setIfInBounds i true) (l++[i])
  | false=>LG P ops is t l
def LH (P:Program) (ops:Array Oper) (_:Nat) (t:Array Bool) (l:List Nat):Array Bool×List Nat:=LG P ops (List.range ops.size) t l
def Yv (acc:List Nat) (o:Oper):Nat:=(o.after.toList.filter (Region.binds .any)).foldl (fun m e=>Nat.lor m (Nat.lor (Nat.shiftLeft 1 e.on) (acc.getD e.on 0))) 0
def Yw (ops:Array Oper):List Nat:=ops.toList.foldl (fun acc o=>acc++[Yv acc o]) []
def As (ops:Array Oper) (_ r i:Nat):Bool:=Nat.testBit ((Yw ops).getD r 0) i
inductive zJ where
 | take (i:Nat)
 | Vy (BX:List Nat) (nJ:List (Nat×List Nat)) (done:List Nat) (r:Nat) (GH:List Nat)
 | fin (BX:List Nat) (nJ:List (Nat×List Nat)) (done:List Nat)
def vK (P:Program) (ops:Array Oper) (nJ:List Nat) (d:Nat):List Nat:=(nJ.filter fun i=>As ops ops.size d i).filter fun i=> !IW P ops i
def DY (ops:Array Oper) (d:Nat):Bool:=match ops[d]? with
 | some o=>(List.range ops.size).all fun j=>j==d || (match ops[j]? with
  | some q=>match q.dst with
   | some e=>o.dst != some e&&(!(o.looksAt ops).contains e || As ops ops.size d j)
   | none=>true
  | none=>true)
 | none=>false
def QC:List zJ->List Nat
 | []=>[]
 | .take _::l=>QC l
 | .Vy _ p _ _ _::l=>p.map Prod.fst++QC l
 | .fin _ p _::l=>p.map Prod.fst++QC l
def IX (E:Env) (ops:Array Oper) (i:Nat) (o:Oper) (A:bA) (S:St) (K:VK):Bool:=match fD E.P ops i with
 | none=>AN E o A S K
 | some j=>match ops[j]? with
  | some q=>AN E q A S fun s S'=>match s with
   | .slice (some ⟨b,0,none⟩) _ _=>match Nat.beq b S.n with
    | true=>mV A q.dst s fun A'=>AN E o A' S' fun v _=>match v with
     | .string _=>K v S
     | _=>false
    | false=>false
   | _=>false
  | none=>false
def oH (E:Env) (ops:Array Oper) (l:List Nat) (A:bA) (S:St) (k:bA->St->Bool):Bool:=
 iD (β:=bA->St->Bool) (fun A S=>k A S) (fun i _ ih A S=>match ops[i]? with
  | some o=>IX E ops i o A S fun v S=>mV A o.dst v fun A=>ih A S
  | none=>false) l A S
def aDu (A:bA) (o:Oper) (k:Bool):Bool:=match o.dst with
 | some d=>gE (rV A.tmps.t d fun _=>true) false k
 | none=>false
def VG (E:Env) (ops:Array Oper) (A:bA) (S:St) (l:List (Nat×List Nat)) (k:Bool):Bool:=
 iD (β:=Bool) k (fun p _ ih=>match ops[p.1]? with
  | some o=>aDu A o (gE (oH E ops p.2 A S fun A S=>IX E ops p.1 o A S fun _ _=>true) ih false)
  | none=>false) l
def WZ (ops:Array Oper) (l:List Nat) (A:bA) (k:bA->Bool):Bool:=
 iD (β:=bA->Bool) k (fun i _ ih A=>match ops[i]? with
  | some o=>match o.dst with
   | some d=>aIt A.tmps.t d fun t=>ih {A with tmps:=⟨t,A.tmps.n⟩}
   | none=>false
  | none=>false) l A
def mO (E:Env) (ops:Array Oper) (l:List zJ) (A:bA) (S:St) (k:bA->St->Bool):Bool:=
 iD (β:=bA->St->Bool) (fun _ _=>false) (fun s _ ih A S=>match s with
  | .take i=>match ops[i]? with
   | some o=>Ck E ops o A S ih
   | none=>false
  | .Vy BX nJ D r GH=>match ops[r]? with
   | some o=>zU E ops A S BX (VG E ops A S nJ (oH E ops D A S fun A S=>Ck E ops o A S fun A S=>zU E ops A S GH (ih A S)))
   | none=>false
  | .fin BX nJ D=>zU E ops A S BX (VG E ops A S nJ (oH E ops D A S k))) l A S
theorem SP{P:Program}{U:Rn}{A:bA}{a:Act} (hA:BR P U A a){d:Tmp}{v v':Value} (hv:VR U v v') (ha:∀u,a.tmps.toList[d]? =some u->u=v'){k:bA->Bool} (hk:mV A (some d) v k=true):
 ∃A',k A'=true/\BR P U A' a/\A'.marks=A.marks/\∀e,e≠d->A'.tmps.t.get e=A.tmps.t.get e:=by
 obtain⟨hd,hk⟩:=GC (show uU v A.tmps d (fun ts=>k ⟨ts,A.marks,A.g⟩)=true from hk);refine⟨_,hk,⟨?_,hA.g⟩,rfl,fun e he=>?_⟩
 ·have h1:=hA.tmps.set hd hv
  have hlt:d<a.tmps.toList.length:=by rw [<-hA.tmps.1];exact hd
  have h2:=ha _ (aQ hlt);have:a.tmps.toList.set d v'=a.tmps.toList:=by rw [<-h2];exact List.set_getElem_self hlt
  rw [this]at h1;exact h1
 ·show(A.tmps.t.put d v).get e=_
  rw [AX,aG he]
theorem Kj{P:Program}{o:Oper}{t:Tmp} (h:Ik P o=some t):∃s d e,o.op= .convert s d (.tmp t)/\P.underlying s=some (.slice e)/\P.underlying d=some .string/\P.underlying e=some (.int .u8):=by
 unfold Ik at h;split at h
 ·rename_i s d t' ho
  split at h
  ·rename_i e hs hd
   split at h
   ·rename_i he
    injection h with h;subst h;exact⟨s,d,e,ho,hs,hd,he⟩
   ·cases h
  ·cases h
 ·cases h
theorem nK{P:Program}{ops:Array Oper}{i j:Nat} (h:fD P ops i=some j):
 ∃o q t,ops[i]? =some o/\Ik P o=some t/\o.guard=none/\(∃d,o.dst=some d)/\ops[j]? =some q/\LF q=true/\q.guard=none/\q.dst=some t/\dep ops i j=true:=by
 unfold fD at h;split at h
 ·rename_i o ho
  split at h
  ·rename_i t ht
   split at h
   ·rename_i hg
    have h1:=List.find?_some h;split at h1
    ·rename_i q hq
     simp only [dR,Option.isNone_iff_eq_none,beq_iff_eq,Ht]at h1 hg;exact⟨o,q,t,ho,ht,hg.1,hg.2,hq,h1.1,h1.2.1,h1.2.2.1,h1.2.2.2⟩
    ·cases h1
   ·cases h
  ·cases h
 ·cases h
theorem Ew{o:Oper} (h:LF o=true):KG o=true:=by
 unfold LF at h;unfold KG;split at h
 ·rename_i h1;rw [h1]
 ·cases h
theorem Kk{P:Program}{o:Oper} (h:LF o=true):rI P o=false:=by
 unfold LF at h;unfold rI;split at h
 ·rename_i h1;rw [h1]
 ·cases h
theorem HV{P:Program}{o:Oper}{t:Tmp} (h:Ik P o=some t):rI P o=false/\KG o=false/\DW o=false/\LF o=false:=by
 obtain⟨s,d,e,ho,_,hd,_⟩:=Kj h;refine⟨?_,?_,?_,?_⟩
 ·unfold rI;rw [ho];simp only [hd]
 ·unfold KG;rw [ho]
 ·unfold DW;rw [ho]
 ·unfold LF;rw [ho]
theorem aGO{P:Program}{ops:Array Oper}{j:Nat} (h:IW P ops j=true):∃q,ops[j]? =some q/\LF q=true:=by
 unfold IW at h;simp only [dR]at h;have h1:=h.1;split at h1
 ·rename_i q hq;exact⟨q,hq,h1⟩
 ·cases h1
theorem Na{P:Program}{ops:Array Oper}{i j:Nat} (h:fD P ops i=some j):IW P ops j=true:=by
 obtain⟨o,q,t,ho,_,_,_,hq,hm,_⟩:=nK h;unfold IW;simp only [hq,hm,Hz];exact Xu.2 ⟨i,FU.2 (sQ.1 ho).1,by simp [h]⟩
theorem aQz{E:Env}{w0:World}{U:Rn}{S:St}{w:World} (h:Rel E.P w0 U S w){A:bA}{a:Act} (hA:BR E.P U A a){o:Oper}{t:Tmp} (ho:Ik E.P o=some t){b n c:Nat} (ht:A.tmps.t.get t=some (.slice (some ⟨b,0,none⟩) n c)){K:VK} (hk:AN E o A S K=true):
 ∃L v,U b=some L/\K v S=true/\bW v=true/\∀w':World,w'.heap[L.b]? =w.heap[L.b]? ->(execOp a.eval o).run E.P w'= .ok (.value v) w':=by
 obtain⟨sT,dT,e,Pl,hs,hd,he⟩:=Kj ho;unfold AN at hk;rw [Pl]at hk;simp only at hk;unfold wA at hk;simp only at hk;obtain⟨x,hx,hk⟩:=HU hk;rw [ht]at hx;injection hx with hx;subst hx;obtain⟨x',Mx,hvr⟩:=hA.tmps.get ht
 have hev:a.eval (.tmp t)=x':=by
  show a.tmps.getD t undef=x';have h1:a.tmps[t]? =some x':=by rw [<-Mx];simp
  simp [h1]
 unfold Jw at hk;simp only [hs,hd,he]at hk;rcases hvr.mZ with ⟨L,c',hL,rfl,_⟩ | ⟨⟨_,h1⟩,_⟩
 ·obtain⟨vs,e',ck,hob,hle,hk⟩:=GB hk
  obtain⟨l',Tg,hlen,hc⟩:=h.KM hob hL hle;obtain⟨ns,hk,hns⟩:=Ka hk;rw [hns]at Tg;have aOd:l'=ns.map (fun n=> .int .u8 (.ofNat n)):=Tg.aE3 (by simp [bW]);refine⟨L,_,hL,hk,rfl,fun w' hw'=>?_⟩
  have hcell:∀q:Nat,w'.cell? ((⟨L.b,L.s+0,none⟩:Addr).add q)=w.cell? ((⟨L.b,L.s+0,none⟩:Addr).add q):=by
   intro q;have hbl:((⟨L.b,L.s+0,none⟩:Addr).add q).block=L.b:=by unfold Addr.add;split<;>rfl
   simp only [World.cell?,hbl,hw']
  unfold execOp;simp only [Pl,hev];rw [cR,run_convert_bytes_string w' sT dT e _ _ _ hs he hd];have RK:=run_loadCells (P:=E.P) (w:=w') ⟨L.b,L.s+0,none⟩ l' hlen (fun j v hj=>by rw [hcell];exact hc j v hj);rw [aOd]at RK;have e1:(⟨ns.map (fun n=>Value.int .u8 (.ofNat n))⟩:Array Value)=((ns.map Int.ofNat).map (Value.int .u8)).toArray:=by simp [List.map_map,Function.comp_def]
  rw [e1]at RK;rw [run_bytesToString w' _ _ _ _ RK]
  have hf:∀(l:List Nat) (r:ByteArray),(l.map Int.ofNat).foldl (fun r (n:Int)=>r.push (UInt8.ofNat n.toNat)) r=⟨r.data++(l.map UInt8.ofNat).toArray⟩:=by
   intro l;induction l with
   | nil=>intro r;simp
   | cons b l ih=>intro r;simp only [Ca,Oi,ih];simp [ByteArray.push]
  rw [hf];have he0:ByteArray.empty.data= #[]:=rfl;rw [he0];simp
 ·cases h1
inductive EF (P:Program) (ops:Array Oper) (n0:Nat) (U:Rn) (a:Act) (w:World):Nat×Option Nat->Prop
 | pure {i:Nat} {o:Oper} {d:Tmp} {v':Value} (ho:ops[i]? =some o) (hd:o.dst=some d) (hp:rI P o=true) (ha:∀u,a.tmps.toList[d]? =some u->u=v') (hr:∀w',(execOp a.eval o).run P w'= .ok (.value v') w'):EF P ops n0 U a w (i,none)
 | mk {i:Nat} {o:Oper} {d:Tmp} {ob:Obj} {mkv:Nat->Value} {b:Nat} (ho:ops[i]? =some o) (hd:o.dst=some d) (hp:KG o=true) (ha:∀u,a.tmps.toList[d]? =some u->u=mkv b) (hr:∀w',(execOp a.eval o).run P w'= .ok (.value (mkv w'.heap.size)) (w'.alloc ob))
  (hb:n0<=b) (hw:w.heap[b]? =some ob) (hf:∀i L,U i=some L->L.b≠b):EF P ops n0 U a w (i,some b)
 | conv {i j:Nat} {o q:Oper} {d t:Tmp} {v':Value} {ob:Obj} {mkv:Nat->Value} {b:Nat} (ho:ops[i]? =some o) (hd:o.dst=some d) (hc:fD P ops i=some j) (hq:ops[j]? =some q) (hqd:q.dst=some t) (ha:∀u,a.tmps.toList[d]? =some u->u=v') (RM:∀u,a.tmps.toList[t]? =some u->u=mkv b)
  (hrq:∀w',(execOp a.eval q).run P w'= .ok (.value (mkv w'.heap.size)) (w'.alloc ob)) (hr:∀w':World,w'.heap[b]? =some ob->(execOp a.eval o).run P w'= .ok (.value v') w')
  (hb:n0<=b) (hw:w.heap[b]? =some ob) (hf:∀i L,U i=some L->L.b≠b):EF P ops n0 U a w (i,some b)
theorem Kl{P:Program}{U:Rn}{S:St}{w0:World}{s:Sem Go.Next}{v:Value}{o:jD}{ob ob':Obj}{mk mkv:Nat->Value} (M:Mk P w0 U S s v o ob mk) (hr:∀w',s.run P w'= .ok (.value (mkv w'.heap.size)) (w'.alloc ob')):ob=ob'/\mk=mkv:=by
 constructor
 ·have h1:=M.run w0
  rw [hr w0]at h1;injection h1 with h1 h2;have h3:(w0.heap.push ob')=(w0.heap.push ob):=kB World.heap h2;have h4:(w0.heap.push ob')[w0.heap.size]? =(w0.heap.push ob)[w0.heap.size]? :=by rw [h3]
  simp at h4;exact h4.symm
 ·funext n
  have h1:=M.run {w0 with heap:=Array.replicate n ob};rw [hr]at h1;injection h1 with h1 h2;injection h1 with h1;simpa using h1.symm
section
variable{E:Env}{w0:World}{ops:Array Oper}
theorem EF.Vx{P:Program}{n0:Nat}{U:Rn}{a:Act}{w:World}{p:Nat×Option Nat} (h:EF P ops n0 U a w p){n:Nat}{L:Loc} (oX:∀b,p.2=some b->b≠L.b):EF P ops n0 (U.put n L) a w p:=by
 have key:∀b,p.2=some b->(∀i M,U i=some M->M.b≠b)->∀i M,U.put n L i=some M->M.b≠b:=by
  intro b hb hf i M hi;unfold Rn.put at hi;split at hi
  ·injection hi with hi;subst hi;exact(oX _ hb).symm
  ·exact hf i M hi
 cases h with
 | pure ho hd hp ha hr=>exact .pure ho hd hp ha hr
 | mk ho hd hp ha hr hb hw hf=>exact .mk ho hd hp ha hr hb hw (key _ rfl hf)
 | conv ho hd hc hq hqd ha RM hrq hr hb hw hf=>exact .conv ho hd hc hq hqd ha RM hrq hr hb hw (key _ rfl hf)
theorem aBB{U:Rn}{A:bA}{a:Act}{S:St}{w:World} (hs:SR E.P w0 U A a S w){i j:Nat}{o q:Oper}{t:Tmp}{ob:Obj}{mkv:Nat->Value}{b:Nat} (ho:ops[i]? =some o) (hc:fD E.P ops i=some j) (hq:ops[j]? =some q) (hqd:q.dst=some t)
 (RM:∀u,a.tmps.toList[t]? =some u->u=mkv b) (hrq:∀w',(execOp a.eval q).run E.P w'= .ok (.value (mkv w'.heap.size)) (w'.alloc ob)) (hb:w0.heap.size<=b) (hw:w.heap[b]? =some ob) (hf:∀i L,U i=some L->L.b≠b) {K:VK} (hk:IX E ops i o A S K=true):
 ∃v,K v S=true/\bW v=true/\∀w':World,w'.heap[b]? =some ob->(execOp a.eval o).run E.P w'= .ok (.value v) w':=by
 obtain⟨o2,q2,t2,BU,hco,_,_,Yx,hm,_,Yy,_⟩:=nK hc;rw [ho]at BU;injection BU with BU;subst BU;rw [hq]at Yx;injection Yx with Yx;subst Yx;rw [hqd]at Yy;injection Yy with Yy;subst Yy;unfold IX at hk;simp only [hc,hq]at hk;obtain⟨s,obj,ob',mk',hk,M⟩:=Ct hs.rel hs.act (Ew hm) hk;obtain⟨rfl,rfl⟩:=Kl M hrq;dsimp only at hk;split at hk
 ·rename_i bb n c
  split at hk
  ·rename_i hbb
   obtain rfl:bb=S.n:=by
    have:=dI hbb;exact this
   have hlt:b<w.heap.size:=(sQ.1 hw).1;obtain⟨L,hL,hLs,vJ⟩:=M.obj b hb;have TX:=hs.rel.dom S.n (bO _);have aBf:Ext U (U.put S.n L):=Rn.SI TX;have hrel:=hs.rel.Vx obj L (by omega) (fun i N hi=>by rw [hL];exact hf i N hi) (fun U' he hU'=>vJ U' w he hU' hw) M.olds;rw [hqd]at hk;obtain⟨aQA,hk⟩:=GC (show uU _ A.tmps t (fun ts=>AN E o ⟨ts,A.marks,A.g⟩ (S.new obj) _)=true from hk)
   have hA':BR E.P (U.put S.n L) ⟨A.tmps.put t (.slice (some ⟨S.n,0,none⟩) n c),A.marks,A.g⟩ a:=by
    have hA0:=hs.act.mono aBf;refine⟨?_,hA0.g⟩;have h1:=hA0.tmps.set aQA (M.val _ b aBf ⟨L,Rn.mW _ _ _,hL,hLs⟩);have aIw:t<a.tmps.toList.length:=by rw [<-hA0.tmps.1];exact aQA
    have h2:=RM _ (aQ aIw);have:a.tmps.toList.set t (mk' b)=a.tmps.toList:=by rw [<-h2];exact List.set_getElem_self aIw
    rw [this]at h1;exact h1
   obtain⟨L2,v,hL2,hkv,RY,fU⟩:=aQz hrel hA' hco (b:=S.n) (n:=n) (c:=c) (by show(A.tmps.t.put t _).get t=_;rw [AX,aK rfl]) hk;rw [Rn.mW]at hL2;injection hL2 with hL2;subst hL2;split at hkv
   ·refine⟨_,hkv,RY,fun w' hw'=>fU w' ?_⟩
    rw [hL,hw',hw]
   ·cases hkv
  ·cases hk
 ·cases hk
theorem SQ{U0:Rn}{wa:World}{a:Act}{w:World} (Hq:w0.heap.size<=wa.heap.size){k:bA->St->Bool}:∀(l:List Nat) {U:Rn} {A:bA} {S:St} {X:List (Nat×Option Nat)},oH E ops l A S k=true->
 SR E.P w0 U A a S w->xZ U0 wa U w->(∀i∈l,∃p∈X,p.1=i)->(∀i∈l,IW E.P ops i=false)->(∀p∈X,EF E.P ops wa.heap.size U a w p)->(∀p∈X,∀q∈X,∀b,p.2=some b->q.2=some b->IW E.P ops p.1=false->fD E.P ops p.1=none->p=q)->l.Nodup->
 ∃U' A' S',k A' S'=true/\SR E.P w0 U' A' a S' w/\xZ U0 wa U' w/\(∀p∈X,p.1∉l->EF E.P ops wa.heap.size U' a w p)/\∀d,(∀i∈l,∀o,ops[i]? =some o->o.dst≠some d)->A'.tmps.t.get d=A.tmps.t.get d:=by
 intro l;induction l with
 | nil=>intro U A S X hk hs WR _ _ hX _ _;exact⟨U,A,S,hk,hs,WR,fun p hp _=>hX p hp,fun _ _=>rfl⟩
 | cons i l ih=>
  intro U A S X hk hs WR hl hgl hX aGP hnd;unfold oH at hk;rw [bU]at hk;obtain⟨⟨i',ob⟩,hpX,rfl⟩:=hl i (.head _);have hef:=hX _ hpX;have hng:=hgl i' (.head _);have aQB:=Hx.1 hnd
  have fin:∀{U1:Rn} {A1:bA} {S1:St} {d:Tmp} {o:Oper},ops[i']? =some o->o.dst=some d->oH E ops l A1 S1 k=true->SR E.P w0 U1 A1 a S1 w->xZ U0 wa U1 w->(∀p∈X,p.1≠i'->EF E.P ops wa.heap.size U1 a w p)->(∀e,e≠d->A1.tmps.t.get e=A.tmps.t.get e)->
   ∃U' A' S',k A' S'=true/\SR E.P w0 U' A' a S' w/\xZ U0 wa U' w/\(∀p∈X,p.1∉i'::l->EF E.P ops wa.heap.size U' a w p)/\∀d,(∀j∈i'::l,∀o,ops[j]? =some o->o.dst≠some d)->A'.tmps.t.get d=A.tmps.t.get d:=by
   intro U1 A1 S1 d o ho hd Za xO aQC hX1 hA1
   obtain⟨U',A',S',g1,g2,g3,g4,g5⟩:=ih (X:=X.filter fun p=>p.1 != i') Za xO aQC (fun j hj=>by
    obtain⟨p,hp,he⟩:=hl j (.tail _ hj);refine⟨p,kA.2 ⟨hp,?_⟩,he⟩;have:p.1≠i':=by rw [he];intro e;subst e;exact aQB.1 hj
    simpa using this) (fun j hj=>hgl j (.tail _ hj)) (fun p hp=>by
    obtain⟨h1,h2⟩:=kA.1 hp;exact hX1 p h1 (by simpa using h2)) (fun p hp q hq=>aGP p (kA.1 hp).1 q (kA.1 hq).1) aQB.2
   refine⟨U',A',S',g1,g2,g3,fun p hp hn=>g4 p (kA.2 ⟨hp,?_⟩) (fun h=>hn (.tail _ h)),fun e he=>?_⟩
   ·have:p.1≠i':=fun h=>hn (by rw [h];exact .head _)
    simpa using this
   ·rw [g5 e (fun j hj=>he j (.tail _ hj)),hA1 e (fun h=>he i' (.head _) o ho (by rw [hd,h]))]
  have plain:∀{o:Oper},ops[i']? =some o->fD E.P ops i'=none->IX E ops i' o A S (fun v S=>mV A o.dst v fun A=>oH E ops l A S k)=true->AN E o A S (fun v S=>mV A o.dst v fun A=>oH E ops l A S k)=true:=by
   intro o ho hcn hk;unfold IX at hk;rw [hcn]at hk;exact hk
  cases hef with
  | @pure _ o d v' ho hd hp ha hr=>
   simp only [ho]at hk
   have hcn:fD E.P ops i'=none:=by
    cases h:fD E.P ops i' with
    | none=>rfl
    | some j=>
     obtain⟨o2,_,t,BU,hco,_⟩:=nK h;rw [ho]at BU;injection BU with BU;subst BU;rw [(HV hco).1]at hp;cases hp
   have hk:AN E o A S (fun v S=>mV A o.dst v fun A=>oH E ops l A S k)=true:=plain ho hcn hk;obtain⟨v,v'',hk,hv,fU⟩:=SO hs.rel hs.act hp hk
   have he:v''=v':=by
    have:=fU w;rw [hr w]at this;injection this with h1 _;injection h1 with h1;exact h1.symm
   subst he;rw [hd]at hk;obtain⟨A',hk,hA',hm,hg⟩:=SP hs.act hv ha hk;exact fin ho hd hk ⟨hA',hs.rel,by rw [hm];exact hs.marks⟩ WR (fun p hp _=>hX p hp) hg
  | @conv _ j o q d t v' ob mkv b ho hd hc hq hqd ha RM hrq hr hb hw hf=>
   simp only [ho]at hk;have hk:IX E ops i' o A S (fun v S=>mV A o.dst v fun A=>oH E ops l A S k)=true:=hk;obtain⟨v,hk,RY,fU⟩:=aBB hs ho hc hq hqd RM hrq (zR Hq hb) hw hf hk
   have he:v=v':=by
    have:=fU w hw;rw [hr w hw]at this;injection this with h1 _;injection h1 with h1;exact h1.symm
   subst he;rw [hd]at hk;obtain⟨A',hk,hA',hm,hg⟩:=SP hs.act (.flat RY) ha hk;exact fin ho hd hk ⟨hA',hs.rel,by rw [hm];exact hs.marks⟩ WR (fun p hp _=>hX p hp) hg
  | @mk _ o d ob mkv b ho hd hp ha hr hb hw hf=>
   simp only [ho]at hk
   have hcn:fD E.P ops i'=none:=by
    cases h:fD E.P ops i' with
    | none=>rfl
    | some j=>
     obtain⟨o2,_,t,BU,hco,_⟩:=nK h;rw [ho]at BU;injection BU with BU;subst BU;rw [(HV hco).2.1]at hp;cases hp
   have hk:AN E o A S (fun v S=>mV A o.dst v fun A=>oH E ops l A S k)=true:=plain ho hcn hk;obtain⟨v,obj,ob',mk',hk,M⟩:=Ct hs.rel hs.act hp hk;obtain⟨rfl,rfl⟩:=Kl M hr;have hlt:b<w.heap.size:=(sQ.1 hw).1;obtain⟨L,hL,hLs,vJ⟩:=M.obj b (zR Hq hb);have TX:=hs.rel.dom S.n (bO _);have aBf:Ext U (U.put S.n L):=Rn.SI TX;have hrel:=hs.rel.Vx obj L (by omega) (fun i N hi=>by rw [hL];exact hf i N hi) (fun U' he hU'=>vJ U' w he hU' hw) M.olds;have aQD:=WR.Vx (S:=S) TX (L:=L) (by omega);rw [hd]at hk;obtain⟨A',hk,hA',hm,hg⟩:=SP (hs.act.mono aBf) (M.val _ b aBf ⟨L,Rn.mW _ _ _,hL,hLs⟩) ha hk;refine fin ho hd hk ⟨hA',hrel,by rw [hm];exact hs.marks.mono aBf⟩ aQD (fun p hp oX=>(hX p hp).Vx fun b' TV h=>?_) hg;have:=aGP _ hpX p hp b' (by rw [h,hL]) TV hng hcn;rw [<-this]at oX;exact oX rfl
end
def On (t:Array Bool) (j:Nat):Prop:=t.getD j false=true
theorem On.lt{t:Array Bool}{j:Nat} (h:On t j):j<t.size:=by
 unfold On at h;rcases BO j t.size with h' | h'
 ·exact h'
 ·simp [h']at h
theorem Pv{t:Array Bool}{j:Nat}:t.getD j true=false↔j<t.size/\¬On t j:=by
 unfold On;rcases BO j t.size with h | h
 ·simp [h]
 ·simp [h]
theorem On.set{t:Array Bool}{i j:Nat} (hi:i<t.size):On (t.setIfInBounds i true) j↔On t j\/j=i:=by
 unfold On;by_cases e:j=i
 ·subst e;simp [hi]
 ·have h1:(t.setIfInBounds i true)[j]? =t[j]? :=by rw [aC1 (aN e)]
  simp [e,h1]
section
variable{P:Program}{ops:Array Oper}
def UC (ops:Array Oper) (j e:Nat):Prop:=∃o,ops[j]? =some o/\∃x∈o.after,Region.binds .any x=true/\x.on=e
theorem kW{j:Nat}{t:Array Bool}:j∈Region.ready .any ops t↔(j<t.size/\¬On t j)/\j<ops.size/\∀e,UC ops j e->On t e:=by
 rw [mem_ready,Pv];constructor
 ·rintro⟨h1,o,ho,h2⟩
  refine⟨h1,(sQ.1 ho).1,?_⟩
  rintro e ⟨o',WS,x,hx,hb,rfl⟩
  rw [ho]at WS;injection WS with WS;subst WS;exact h2 x hx hb
 ·rintro⟨h1,h2,h3⟩
  exact⟨h1,_,Hs h2,fun x hx hb=>h3 _ ⟨_,Hs h2,x,hx,hb,rfl⟩⟩
theorem aFb{j e:Nat}:dep ops j e=true↔UC ops j e:=by
 unfold dep UC;cases h:ops[j]? with
 | none=>simp
 | some o=>
  simp only [Array.any_eq_true'];constructor
  ·rintro⟨x,hx,hb⟩
   simp only [dR,beq_iff_eq]at hb;exact⟨o,rfl,x,hx,hb.1,hb.2⟩
  ·rintro⟨o',WS,x,hx,hb,he⟩
   injection WS with WS;subst WS;exact⟨x,hx,by simp [hb,he]⟩
def CM (ops:Array Oper) (t:Array Bool):List Nat->List Nat->Prop
 | _,[]=>True
 | pre,d::l=>(∀e,UC ops d e->On t e\/e∈pre)/\CM ops t (d::pre) l
theorem CM.mono{t:Array Bool}:∀{l pre pre':List Nat},CM ops t pre l->(∀e∈pre,e∈pre')->CM ops t pre' l:=by
 intro l;induction l with
 | nil=>intro _ _ _ _;trivial
 | cons d l ih=>
  intro pre pre' h hs;refine⟨fun e he=>(h.1 e he).imp id (hs e),ih h.2 fun e he=>?_⟩;rcases cC.1 he with rfl | he
  ·exact .head _
  ·exact .tail _ (hs e he)
theorem CM.step{t:Array Bool}{i:Nat} (hi:i<t.size):∀{l pre:List Nat},CM ops (t.setIfInBounds i true) pre l->CM ops t (i::pre) l:=by
 intro l;induction l with
 | nil=>intro _ _;trivial
 | cons d l ih=>
  intro pre h;refine⟨fun e he=>?_,(ih h.2).mono fun e he=>?_⟩
  ·rcases h.1 e he with h1 | h1
   ·rcases(On.set hi).1 h1 with h1 | h1
    ·exact .inl h1
    ·subst h1;exact .inr (.head _)
   ·exact .inr (.tail _ h1)
  ·simp only [cC]at he ⊢
   rcases he with h | h | h
   ·exact .inr (.inl h)
   ·exact .inl h
   ·exact .inr (.inr h)
theorem XA{t:Array Bool}{i:Nat}:NS ops t i=true↔i∈Region.ready .any ops t:=by
 rw [kW];unfold NS;cases ho:ops[i]? with
 | none=>
  simp only [Hv,false_iff]
  rintro⟨_,h2,_⟩
  have:=Array.getElem?_eq_none_iff.1 ho;omega
 | some o=>
  have hlt:=(sQ.1 ho).1;simp only [dR,IR,dL,VX];constructor
  ·rintro⟨h1,h2⟩
   refine⟨Pv.1 h1,hlt,?_⟩
   rintro e ⟨o',WS,x,hx,hb,rfl⟩
   rw [ho]at WS;injection WS with WS;subst WS;rcases h2 x (by simpa using hx)with h3 | h3
   ·rw [hb]at h3;cases h3
   ·exact h3
  ·rintro⟨h1,_,h3⟩
   refine⟨Pv.2 h1,fun x hx=>?_⟩;cases hb:Region.binds .any x with
   | false=>exact .inl rfl
   | true=>exact .inr (h3 _ ⟨o,ho,x,by simpa using hx,hb,rfl⟩)
theorem aBC:∀(is:List Nat) (t:Array Bool) (l:List Nat) {c:Array Bool×List Nat},LG P ops is t l=c->
 ∃m,c.2=l++m/\c.1.size=t.size/\(∀j,On c.1 j↔On t j\/j∈m)/\(∀i∈m,lP P ops i=true/\i<t.size/\¬On t i)/\m.Nodup/\CM ops t [] m:=by
 intro is;induction is with
 | nil=>intro t l c h;subst h;exact⟨[],by simp [LG],rfl,by simp [LG],by simp,.nil,trivial⟩
 | cons i is ih=>
  intro t l c h;unfold LG at h;split at h
  ·rename_i hb
   rw [dR]at hb;obtain⟨DZ,hrd⟩:=hb;obtain⟨⟨hi,hun⟩,_,hw⟩:=kW.1 (XA.1 hrd);obtain⟨m,h1,h2,h3,h4,h5,h6⟩:=ih _ _ h;have hs:(t.setIfInBounds i true).size=t.size:=aC4;refine⟨i::m,by rw [h1];simp,h2.trans hs,fun j=>?_,fun j hj=>?_,Hx.2 ⟨fun him=>?_,h5⟩,fun e he=> .inl (hw e he),h6.step hi⟩
   ·rw [h3,On.set hi,cC]
    constructor
    ·rintro((h | h) | h)
     ·exact .inl h
     ·exact .inr (.inl h)
     ·exact .inr (.inr h)
    ·rintro(h | h | h)
     ·exact .inl (.inl h)
     ·exact .inl (.inr h)
     ·exact .inr h
   ·rcases cC.1 hj with rfl | hj
    ·exact⟨DZ,hi,hun⟩
    ·obtain⟨g1,g2,g3⟩:=h4 j hj
     exact⟨g1,by rw [hs]at g2;exact g2,fun h=>g3 ((On.set hi).2 (.inl h))⟩
   ·exact(h4 i him).2.2 ((On.set hi).2 (.inr rfl))
  ·exact ih t l h
theorem CN (f:Nat) (t:Array Bool) (l:List Nat){c:Array Bool×List Nat} (h:LH P ops f t l=c):
 ∃m,c.2=l++m/\c.1.size=t.size/\(∀j,On c.1 j↔On t j\/j∈m)/\(∀i∈m,lP P ops i=true/\i<t.size/\¬On t i)/\m.Nodup/\CM ops t [] m:=aBC _ t l h
theorem CM.snoc{t:Array Bool}{d:Nat}:∀{l pre:List Nat},CM ops t pre l->(∀e,UC ops d e->On t e\/e∈pre\/e∈l)->CM ops t pre (l++[d]):=by
 intro l;induction l with
 | nil=>intro pre _ hd;exact⟨fun e he=>(hd e he).imp id fun h=>h.elim id (fun h=>by cases h),trivial⟩
 | cons i l ih=>
  intro pre h hd;refine⟨h.1,ih h.2 fun e he=>?_⟩;rcases hd e he with h1 | h1 | h1
  ·exact .inl h1
  ·exact .inr (.inl (.tail _ h1))
  ·rcases cC.1 h1 with rfl | h1
   ·exact .inr (.inl (.head _))
   ·exact .inr (.inr h1)
theorem CM.filter{t t2:Array Bool}{q:Nat->Bool} (ht:∀e,On t e->On t2 e):∀{l pre pre2:List Nat},CM ops t pre l->(∀e∈pre,On t2 e\/e∈pre2)->(∀e∈l,q e=false->On t2 e)->CM ops t2 pre2 (l.filter q):=by
 intro l;induction l with
 | nil=>intro _ _ _ _ _;trivial
 | cons i l ih=>
  intro pre pre2 h hp hl;cases hq:q i with
  | true=>
   rw [List.filter_cons_of_pos hq];refine⟨fun e he=>(h.1 e he).elim (fun h=> .inl (ht e h)) (hp e),ih h.2 (fun e he=>?_) fun e he=>hl e (.tail _ he)⟩;rcases cC.1 he with rfl | he
   ·exact .inr (.head _)
   ·exact(hp e he).imp id (.tail _)
  | false=>
   rw [List.filter_cons_of_neg (by simp [hq])];refine ih h.2 (fun e he=>?_) fun e he=>hl e (.tail _ he);rcases cC.1 he with rfl | he
   ·exact .inl (hl _ (.head _) hq)
   ·exact hp e he
theorem CM.ready{t t':Array Bool} (hsz:t'.size=ops.size) (aOz:∀j,On t j->On t' j):∀{l pre:List Nat},CM ops t pre l->(∀e∈pre,On t' e)->(∀i∈l,i<ops.size)->(∃i∈l,¬On t' i)->∃i∈l,i∈Region.ready .any ops t':=by
 intro l;induction l with
 | nil=>rintro _ _ _ _ ⟨i,hi,_⟩;cases hi
 | cons d l ih=>
  rintro pre h Pw hlt ⟨i,hi,hn⟩
  by_cases hd:On t' d
  ·have Co:i∈l:=by
    rcases cC.1 hi with rfl | h'
    ·exact aX hd hn
    ·exact h'
   obtain⟨j,hj,hr⟩:=ih h.2 (fun e he=>by
    rcases cC.1 he with rfl | he
    ·exact hd
    ·exact Pw e he) (fun i hi=>hlt i (.tail _ hi)) ⟨i,Co,hn⟩
   exact⟨j,.tail _ hj,hr⟩
  ·have hds:=hlt d (.head _)
   exact⟨d,.head _,kW.2 ⟨⟨by omega,hd⟩,hds,fun e he=>(h.1 e he).elim (aOz e) (Pw e)⟩⟩
def Down (ops:Array Oper) (t:Array Bool):Prop:=∀j,On t j->∀e,UC ops j e->On t e
theorem Down.set{t:Array Bool} (h:Down ops t){i:Nat} (hr:i∈Region.ready .any ops t):Down ops (t.setIfInBounds i true):=by
 obtain⟨⟨hi,_⟩,_,hw⟩:=kW.1 hr;intro j hj e he;rcases(On.set hi).1 hj with hj | rfl
 ·exact(On.set hi).2 (.inl (h j hj e he))
 ·exact(On.set hi).2 (.inl (hw e he))
def Zc (ops:Array Oper) (t:Array Bool) (acc:List Nat):Prop:=∀r m,acc[r]? =some m->(∀e,UC ops r e->On t e)->∀i,Nat.testBit m i=true->On t i
theorem aGR{t:Array Bool}{acc:List Nat} (h:Down ops t) (aGS:Zc ops t acc){r:Nat}{o:Oper} (ho:ops[r]? =some o) (hr:∀e,UC ops r e->On t e){i:Nat} (hi:Nat.testBit (Yv acc o) i=true):On t i:=by
 unfold Yv at hi
 have key:∀(l:List Edge) (m:Nat),(∀e∈l,e∈o.after/\Region.binds .any e=true)->(Nat.testBit m i=true->On t i)->
  Nat.testBit (l.foldl (fun m e=>Nat.lor m (Nat.lor (Nat.shiftLeft 1 e.on) (acc.getD e.on 0))) m) i=true->On t i:=by
  intro l;induction l with
  | nil=>intro m _ hm hi;exact hm hi
  | cons e l ih=>
   intro m hl hm hi;refine ih _ (fun x hx=>hl x (.tail _ hx)) (fun hb=>?_) hi;have hb:Nat.testBit (m ||| (1 <<< e.on ||| acc.getD e.on 0)) i=true:=hb;obtain⟨h1,h2⟩:=hl e (.head _);have ZV:On t e.on:=hr _ ⟨o,ho,e,h1,h2,rfl⟩;simp only [Nat.testBit_or,VX]at hb;rcases hb with hb | hb | hb
   ·exact hm hb
   ·rw [Nat.one_shiftLeft,Nat.testBit_two_pow]at hb
    have:e.on=i:=by simpa using hb
    rw [<-this];exact ZV
   ·cases ha:acc[e.on]? with
    | none=>rw [sP,ha]at hb;simp at hb
    | some m'=>
     rw [sP,ha]at hb;exact aGS _ _ ha (h _ ZV) _ hb
 refine key _ 0 (fun e he=>?_) (fun h=>by simp at h) hi;obtain⟨h1,h2⟩:=kA.1 he;exact⟨by simpa using h1,h2⟩
theorem aGT{t:Array Bool} (h:Down ops t):Zc ops t (Yw ops):=by
 unfold Yw
 have key:∀(l pre:List Oper) (acc:List Nat),ops.toList=pre++l->acc.length=pre.length->Zc ops t acc->Zc ops t (l.foldl (fun acc o=>acc++[Yv acc o]) acc):=by
  intro l;induction l with
  | nil=>intro pre acc _ _ aGS;exact aGS
  | cons o l ih=>
   intro pre acc he hlen aGS;refine ih (pre++[o]) _ (by rw [he];simp) (by simp [hlen]) ?_;intro r m hr hw i hi;by_cases hlt:r<acc.length
   ·rw [gV hlt]at hr
    exact aGS r m hr hw i hi
   ·rw [kQ (by omega)]at hr
    have FG:r=acc.length:=by
     rcases BO (r-acc.length) 1 with h1 | h1
     ·omega
     ·rw [FT (by simpa using h1)]at hr;cases hr
    subst FG;simp at hr;subst hr;refine aGR h aGS ?_ hw hi;have:ops.toList[acc.length]? =some o:=by rw [he,hlen];simp
    simpa using this
 exact key _ [] [] rfl rfl (fun r m hr=>by simp at hr)
theorem Down.As{t:Array Bool} (h:Down ops t):∀(f r i:Nat),(∀e,UC ops r e->On t e)->As ops f r i=true->On t i:=by
 intro f r i hr hn;unfold Am.As at hn;cases ha:(Yw ops)[r]? with
 | none=>rw [sP,ha]at hn;simp at hn
 | some m=>
  rw [sP,ha]at hn;exact aGT h r m ha hr i hn
end
section
variable{P:Program}{ops:Array Oper}{n0:Nat}{U:Rn}{a:Act}{w:World}
theorem EF.put (xN:Plain ops){p:Nat×Option Nat} (h:EF P ops n0 U a w p){d:Option Tmp}{v:Value} (hd:∀o,ops[p.1]? =some o->∀t,d=some t->t∉o.looksAt ops/\o.dst≠some t)
 (hd2:∀j q,fD P ops p.1=some j->ops[j]? =some q->∀t,d=some t->t∉q.looksAt ops/\q.dst≠some t):EF P ops n0 U (a.put d v) w p:=by
 cases h with
 | @pure i o e v' ho he hp ha hr=>
  refine .pure ho he hp (fun u hu=>ha u ?_) fun w'=>?_
  ·rw [uW]at hu
   ·exact hu
   ·intro h;exact(hd o ho e h).2 he
  ·rw [execOp_put o (xN _ o ho).1 a d v (fun t ht=>(hd o ho t ht).1)];exact hr w'
 | @mk i o e ob mkv b ho he hp ha hr hb hw hf=>
  refine .mk ho he hp (fun u hu=>ha u ?_) (fun w'=>?_) hb hw hf
  ·rw [uW]at hu
   ·exact hu
   ·intro h;exact(hd o ho e h).2 he
  ·rw [execOp_put o (xN _ o ho).1 a d v (fun t ht=>(hd o ho t ht).1)];exact hr w'
 | @conv i j o q e t v' ob mkv b ho he hc hq hqd ha RM hrq hr hb hw hf=>
  refine .conv ho he hc hq hqd (fun u hu=>ha u ?_) (fun u hu=>RM u ?_) (fun w'=>?_) (fun w' hw'=>?_) hb hw hf
  ·rw [uW]at hu
   ·exact hu
   ·intro h;exact(hd o ho e h).2 he
  ·rw [uW]at hu
   ·exact hu
   ·intro h;exact(hd2 j q hc hq t h).2 hqd
  ·rw [execOp_put q (xN _ q hq).1 a d v (fun t ht=>(hd2 j q hc hq t ht).1)];exact hrq w'
  ·rw [execOp_put o (xN _ o ho).1 a d v (fun t ht=>(hd o ho t ht).1)];exact hr w' hw'
theorem EF.RN{p:Nat×Option Nat} (h:EF P ops n0 U a w p){U':Rn}{w':World} (hs:xZ U w U' w'):EF P ops n0 U' a w' p:=by
 have key:∀{b:Nat} {ob:Obj},w.heap[b]? =some ob->(∀i L,U i=some L->L.b≠b)->w'.heap[b]? =some ob/\∀i L,U' i=some L->L.b≠b:=by
  intro b ob hw hf;have hlt:b<w.heap.size:=(sQ.1 hw).1;refine⟨(hs.fr.2 b hlt hf).trans hw,fun i L hi=>?_⟩;rcases hs.nw i L hi with h1 | h1 | ⟨j,M,h1,h2⟩
  ·exact hf i L h1
  ·omega
  ·rw [<-h2];exact hf j M h1
 cases h with
 | pure ho he hp ha hr=>exact .pure ho he hp ha hr
 | mk ho he hp ha hr hb hw hf=>exact .mk ho he hp ha hr hb (key hw hf).1 (key hw hf).2
 | conv ho he hc hq hqd ha RM hrq hr hb hw hf=>exact .conv ho he hc hq hqd ha RM hrq hr hb (key hw hf).1 (key hw hf).2
theorem Rel.grow{w0:World}{S:St} (h:Rel P w0 U S w) (ob:Obj):Rel P w0 U S (w.alloc ob):=by
 have hold:∀k,k<w.heap.size->(w.alloc ob).heap[k]? =w.heap[k]? :=fun k hk=>by show(w.heap.push ob)[k]? =_;rw [Xo,aG (by omega)]
 have hsz:(w.alloc ob).heap.size=w.heap.size+1:=Xw _
 exact⟨h.Pe,fun i o hi=>(h.PB i o hi).frame (.refl U) fun L hL=>hold _ (h.loc i L hL),h.dom,h.lt,fun i L hL=>by have:=h.loc i L hL;omega,h.sep,h.old,
  ⟨h.base.os,h.base.tape,h.base.output,by have:=h.base.size;omega,fun k hk=>(hold k (DJ hk h.base.size)).trans (h.base.block k hk)⟩⟩
theorem xZ.grow{U0:Rn}{wa:World} (h:xZ U0 wa U w) (ob:Obj):xZ U0 wa U (w.alloc ob):=by
 have hsz:(w.alloc ob).heap.size=w.heap.size+1:=Xw _;refine⟨h.ext,⟨by have:=h.fr.1;omega,fun c hc hn=>?_⟩,h.nw⟩;rw [<-h.fr.2 c hc hn];show(w.heap.push ob)[c]? =_;rw [Xo,aG (by have:=h.fr.1;omega)]
theorem EF.grow{p:Nat×Option Nat} (h:EF P ops n0 U a w p) (ob:Obj):EF P ops n0 U a (w.alloc ob) p:=by
 refine h.RN ⟨.refl U,⟨by have:(w.alloc ob).heap.size=w.heap.size+1:=Xw _;omega,fun c hc _=>?_⟩,fun _ _ h=> .inl h⟩;show(w.heap.push ob)[c]? =_;rw [Xo,aG (by omega)]
theorem BR.aOA{A:bA} (h:BR P U A a){d:Tmp} (hd:A.tmps.t.get d=none) (v:Value):BR P U A (a.put (some d) v):=by
 refine⟨⟨?_,fun k x hx=>?_⟩,h.g⟩
 ·show _=(a.tmps.setIfInBounds d v).toList.length
  rw [Br,Bw];exact h.tmps.1
 ·obtain⟨y,hy,hr⟩:=h.tmps.2 k x hx
  refine⟨y,?_,hr⟩;show(a.tmps.setIfInBounds d v).toList[k]? =_;rw [Br,IP (fun e=>by subst e;rw [hd]at hx;cases hx)];exact hy
theorem aGU{A:bA}{o:Oper}{k:Bool} (h:aDu A o k=true):∃d,o.dst=some d/\A.tmps.t.get d=none/\k=true:=by
 unfold aDu at h;split at h
 ·rename_i d hd
  refine⟨d,hd,?_⟩;rw [nH]at h;cases hg:A.tmps.t.get d with
  | none=>rw [hg]at h;exact⟨rfl,h⟩
  | some x=>rw [hg]at h;cases h
 ·cases h
end
section
variable{E:Env}{w0:World}{ops:Array Oper}
theorem aGV{A:bA}{S:St}:∀{l:List (Nat×List Nat)} {k:Bool},VG E ops A S l k=true->
 k=true/\∀p∈l,∃o d,ops[p.1]? =some o/\o.dst=some d/\A.tmps.t.get d=none/\oH E ops p.2 A S (fun A S=>IX E ops p.1 o A S fun _ _=>true)=true:=by
 intro l;induction l with
 | nil=>intro k h;exact⟨h,by simp⟩
 | cons p l ih=>
  intro k h;unfold VG at h;rw [bU]at h;split at h
  ·rename_i o ho
   obtain⟨d,hd,hg,h⟩:=aGU h;cases hb:oH E ops p.2 A S (fun A S=>IX E ops p.1 o A S fun _ _=>true)with
   | false=>rw [hb]at h;cases h
   | true=>
    rw [hb]at h;obtain⟨h1,h2⟩:=ih h;refine⟨h1,fun q hq=>?_⟩;rcases cC.1 hq with rfl | hq
    ·exact⟨o,d,ho,hd,hg,hb⟩
    ·exact h2 q hq
  ·cases h
theorem Ez{P:Program}{i:Nat}{o:Oper} (ho:ops[i]? =some o) (h:lP P ops i=true):o.guard=none:=by
 unfold lP at h;rw [ho]at h;simp only [VX]at h;rcases h with h | h
 ·unfold Pu at h
  simp only [dR,Option.isNone_iff_eq_none]at h;exact h.1
 ·obtain⟨j,hj⟩:=Ht.1 h
  obtain⟨o2,_,_,BU,_,hg,_⟩:=nK hj;rw [ho]at BU;injection BU with BU;subst BU;exact hg
theorem aGW{U:Rn}{a:Act}{S:St}{A:bA}{w wa:World} (xN:Plain ops) (_hs:SR E.P w0 U A a S w) (Cu:w0.heap.size<=wa.heap.size) (Hq:wa.heap.size<=w.heap.size) (aSo:∀i L,U i=some L->L.b<w.heap.size)
 {i:Nat} {o:Oper} {d:Tmp} (ho:ops[i]? =some o) (hd:o.dst=some d) (NP:d∉o.looksAt ops) (DZ:lP E.P ops i=true) {X:List (Nat×Option Nat)}
 {U1:Rn} {A1:bA} {S1:St} (xO:SR E.P w0 U1 A1 a S1 w) (aBD:∀j,fD E.P ops i=some j->∃b,(j,some b)∈X/\EF E.P ops wa.heap.size U a w (j,some b)/\EF E.P ops wa.heap.size U1 a w (j,some b)/\∀q,ops[j]? =some q->d∉q.looksAt ops/\q.dst≠some d)
 (hk:IX E ops i o A1 S1 (fun _ _=>true)=true) {U0:Rn} (aTm:xZ U0 wa U w):
 ∃v' wn ob,(execOp a.eval o).run E.P w= .ok (.value v') wn/\(wn=w\/∃x,wn=w.alloc x)/\EF E.P ops wa.heap.size U (a.put o.dst v') wn (i,ob)/\(∀b,ob=some b->(fD E.P ops i=none/\b=w.heap.size)\/∃j,fD E.P ops i=some j/\(j,some b)∈X):=by
 have wB:∀v',execOp (a.put o.dst v').eval o=execOp a.eval o:=fun v'=>execOp_put o (xN _ o ho).1 a o.dst v' (fun t ht=>by rw [hd]at ht;injection ht with ht;subst ht;exact NP);cases hcv:fD E.P ops i with
 | some j=>
  obtain⟨b,hX,he0,he1,hap⟩:=aBD j hcv;obtain⟨o2,q2,t,BU,hco,hg,_,Yx,hm,hg2,Yy,_⟩:=nK hcv;rw [ho]at BU;injection BU with BU;subst BU
  have aQE:fD E.P ops j=none:=by
   cases h:fD E.P ops j with
   | none=>rfl
   | some j2=>
    obtain⟨o3,_,t3,ho3,aSp,_⟩:=nK h;rw [Yx]at ho3;injection ho3 with ho3;subst ho3;rw [(HV aSp).2.2.2]at hm;cases hm
  generalize hp0:(j,some b)=p0 at he0 he1;cases he0 with
  | pure=>injection hp0 with _ h;cases h
  | conv _ _ hc=>injection hp0 with h _;subst h;rw [aQE]at hc;cases hc
  | @mk j' q t' ob mkv b' hq hqd hp ha hr hb hw hf=>
   injection hp0 with h1 h2;injection h2 with h2;subst h1 h2;rw [Yx]at hq;injection hq with hq;subst hq;rw [Yy]at hqd;injection hqd with hqd;subst hqd
   have hf1:∀i L,U1 i=some L->L.b≠b:=by
    cases he1 with
    | mk _ _ _ _ _ _ _ hf=>exact hf
    | conv _ _ hc=>rw [aQE]at hc;cases hc
   obtain⟨v',_,RY,fU⟩:=aBB xO ho hcv Yx Yy ha hr (zR Cu hb) hw hf1 hk;refine⟨v',w,some b,fU w hw,.inl rfl,.conv ho hd hcv Yx Yy (fun u hu=>?_) (fun u hu=>ha u ?_) (fun w'=>?_) (fun w' hw'=>by rw [wB];exact fU w' hw') hb hw hf,fun b' TV=> .inr ⟨j,rfl,by injection TV with TV;subst TV;exact hX⟩⟩
   ·rw [hd]at hu
    exact HF u hu
   ·rw [uW]at hu
    ·exact hu
    ·rw [hd];intro e;injection e with e;subst e;exact(hap _ Yx).2 Yy
   ·rw [execOp_put q2 (xN _ q2 Yx).1 a o.dst v' (fun t ht=>by rw [hd]at ht;injection ht with ht;subst ht;exact(hap _ Yx).1)];exact hr w'
 | none=>
 have DZ:Pu E.P o=true:=by
  unfold lP at DZ;rw [ho]at DZ;simp only [hcv,Option.isSome_none,Bool.or_false]at DZ;exact DZ
 unfold IX at hk;rw [hcv]at hk;have hk:AN E o A1 S1 (fun _ _=>true)=true:=hk;cases hp:rI E.P o with
 | true=>
  obtain⟨v,v',_,_,hr⟩:=SO xO.rel xO.act hp hk;refine⟨v',w,none,hr w,.inl rfl,.pure ho hd hp (fun u hu=>?_) (fun w'=>by rw [wB];exact hr w'),fun b h=>by cases h⟩;rw [hd]at hu;exact HF u hu
 | false=>
  have hal:KG o=true:=by
   unfold Pu at DZ;rw [hp]at DZ;simp only [dR,Bool.false_and,Bz]at DZ;exact DZ.2.2
  obtain⟨v,obj,ob,mk,_,M⟩:=Ct xO.rel xO.act hal hk;refine⟨mk w.heap.size,w.alloc ob,some w.heap.size,M.run w,.inr ⟨ob,rfl⟩,.mk ho hd hal (fun u hu=>?_) (fun w'=>by rw [wB];exact M.run w') Hq ?_ (fun i L hi=>?_),fun b h=> .inl ⟨rfl,by injection h with h;exact h.symm⟩⟩
  ·rw [hd]at hu
   exact HF u hu
  ·show(w.heap.push ob)[w.heap.size]? =_;simp
  ·have:=aSo i L hi;omega
theorem aLW{ro:Option Nat}{P:Program}{Q:Exit->Act->World->Prop}{i:Nat}{o:Oper}{v:Value}{a:Act}{w wn:World} (xN:Plain ops) (hi:ops[i]? =some o) (hg:o.guard=none) (hr:(execOp a.eval o).run P w= .ok (.value v) wn)
 {K:Act->World->Prop} (hk:K (a.put o.dst v) wn):wpOpIn (VD ro) 0 P ops Q i K a w:=by
 have hw:Region.wanted o (yielded ops a.tmps)=true:=by unfold Region.wanted;rw [hg]
 unfold wpOpIn;simp only [hi,hw,if_true,Oper.wpIn,Oper.semAt_eq _ _ _ (xN i o hi).2,hr,Oper.uponIn];exact⟨fun _ _=>trivial,hk⟩
end
section
variable{E:Env}{w0:World}{ops:Array Oper}
theorem Uh{d:Nat}{o:Oper} (h:DY ops d=true) (ho:ops[d]? =some o){j:Nat}{q:Oper}{e:Tmp} (hj:j≠d) (hq:ops[j]? =some q) (he:q.dst=some e):
 o.dst≠some e/\(e∈o.looksAt ops->As ops ops.size d j=true):=by
 unfold DY at h;rw [ho]at h;have hlt:j<ops.size:=(sQ.1 hq).1;have h1:=dL.1 h j (FU.2 hlt);simp only [hq,he,VX,beq_iff_eq,dR,bne_iff_ne,IR,ne_eq]at h1;rcases h1 with h1 | ⟨h1,h2⟩
 ·exact aX h1 hj
 ·refine⟨h1,fun hm=>?_⟩
  rcases h2 with h2 | h2
  ·exfalso
   revert h2;simp [hm]
  ·exact h2
def rem (t:Array Bool):Nat:=(List.range t.size).countP fun j=> !t.getD j false
theorem Zd{t:Array Bool}{i m:Nat} (hi:i<t.size) (hn:¬On t i) (h:rem t<=m+1):rem (t.setIfInBounds i true)<=m:=by
 have hlt:rem (t.setIfInBounds i true)<rem t:=by
  unfold rem;rw [show(t.setIfInBounds i true).size=t.size from aC4]
  have key:∀l:List Nat,(l.countP fun j=> !(t.setIfInBounds i true).getD j false)<=(l.countP fun j=> !t.getD j false)/\(i∈l->(l.countP fun j=> !(t.setIfInBounds i true).getD j false)<(l.countP fun j=> !t.getD j false)):=by
   intro l;induction l with
   | nil=>exact⟨bO _,fun h=>by cases h⟩
   | cons j l ih=>
    by_cases e:j=i
    ·subst e
     have h1:(t.setIfInBounds j true).getD j false=true:=(On.set hi).2 (.inr rfl);have h2:t.getD j false=false:=by simpa [On]using hn
     simp only [List.countP_cons,h1,h2];have h3:=ih.1;simp only [eQ,BN,if_true,Hv,if_false];exact⟨by omega,fun _=>by omega⟩
    ·have h1:(t.setIfInBounds i true).getD j false=t.getD j false:=by
      have h1:(t.setIfInBounds i true)[j]? =t[j]? :=by rw [aC1 (aN e)]
      simp [h1]
     simp only [List.countP_cons,h1];refine⟨by have:=ih.1;omega,fun hm=>?_⟩;rcases cC.1 hm with h | h
     ·exact aX h.symm e
     ·have:=ih.2 h;omega
  exact(key _).2 (FU.2 hi)
 omega
theorem Px{t:Array Bool} (h:rem t<=0){i:Nat} (hi:i<t.size):On t i:=by
 unfold rem at h;have h0:=List.countP_eq_zero.1 (Nat.le_zero.1 h) i (FU.2 hi);simpa [On]using h0
structure Inv (E:Env) (w0:World) (ops:Array Oper) (U0:Rn) (wa:World) (L:Array Bool) (taken:List Nat) (m:Nat) (L':Array Bool) (X:List (Nat×Option Nat)) (J:List (Nat×Value)) (U:Rn) (A:bA) (a:Act) (S:St) (w:World):Prop where
 hs:SR E.P w0 U A a S w
 RN:xZ U0 wa U w
 szL:L.size=ops.size
 sz:L'.size=ops.size
 on:∀j,On L' j↔On L j\/∃p∈X,p.1=j
 down:Down ops L'
 xf:∀p∈X,EF E.P ops wa.heap.size U a w p
 xl:∀p∈X,DY ops p.1=true/\lP E.P ops p.1=true/\¬On L p.1
 xd:∀p∈X,∀q∈X,p.1=q.1->p=q
 xb:∀p∈X,∀q∈X,∀b,p.2=some b->q.2=some b->IW E.P ops p.1=false->fD E.P ops p.1=none->p=q
 xs:∀p∈X,∀j,fD E.P ops p.1=some j->∃q∈X,q.1=j
 lg:∀j,On L j->IW E.P ops j=false
 jf:∀p∈J,p.1∈taken/\Kn E.P ops a w p
 fuel:rem L'<=m
 xr:CM ops L [] (X.map Prod.fst).reverse
 jx:∀p∈J,∀q∈X,dep ops q.1 p.1=false
theorem Inv.apart{U0:Rn}{wa:World}{L:Array Bool}{taken:List Nat}{m:Nat}{L':Array Bool}{X:List (Nat×Option Nat)}{J:List (Nat×Value)}{U:Rn}{A:bA}{a:Act}{S:St}{w:World}
 (h:Inv E w0 ops U0 wa L taken m L' X J U A a S w) {j:Nat} {q:Oper} (hq:ops[j]? =some q) (hj:¬On L' j) {p:Nat×Option Nat} (hp:p∈X):
 ∀o,ops[p.1]? =some o->∀t,q.dst=some t->t∉o.looksAt ops/\o.dst≠some t:=by
 intro o ho t ht;have ZV:On L' p.1:=(h.on _).2 (.inr ⟨p,hp,rfl⟩);have oX:j≠p.1:=fun e=>hj (e▸ZV);obtain⟨h1,h2⟩:=Uh (h.xl p hp).1 ho oX hq ht;exact⟨fun hm=>hj (h.down.As _ _ _ (h.down _ ZV) (h2 hm)),h1⟩
theorem Inv.aDv{U0:Rn}{wa:World}{L:Array Bool}{taken:List Nat}{m:Nat}{L':Array Bool}{X:List (Nat×Option Nat)}{J:List (Nat×Value)}{U:Rn}{A:bA}{a:Act}{S:St}{w:World}
 (h:Inv E w0 ops U0 wa L taken m L' X J U A a S w) {j:Nat} {q:Oper} (hq:ops[j]? =some q) (hj:¬On L' j) {p:Nat×Option Nat} (hp:p∈X):
 ∀i r,fD E.P ops p.1=some i->ops[i]? =some r->∀t,q.dst=some t->t∉r.looksAt ops/\r.dst≠some t:=by
 intro i r hi hr;obtain⟨p',hp',rfl⟩:=h.xs p hp i hi;exact h.apart hq hj hp' r hr
theorem Fa{P:Program}{i:Nat}{o:Oper} (ho:ops[i]? =some o) (h:neutral P o=true):IW P ops i=false/\fD P ops i=none:=by
 constructor
 ·cases hg:IW P ops i with
  | false=>rfl
  | true=>
   obtain⟨q,hq,hm⟩:=aGO hg;rw [ho]at hq;injection hq with hq;subst hq;unfold neutral at h;rw [Kk hm]at h
   have:DW o=false:=by
    unfold LF at hm;unfold DW;split at hm
    ·rename_i h1;rw [h1]
    ·cases hm
   rw [this]at h;cases h
 ·cases hc:fD P ops i with
  | none=>rfl
  | some j=>
   obtain⟨o2,_,t,BU,hco,_⟩:=nK hc;rw [ho]at BU;injection BU with BU;subst BU;unfold neutral at h;rw [(HV hco).1,(HV hco).2.2.1]at h;cases h
theorem aGX{P:Program}{j:Nat} (h:IW P ops j=true):lP P ops j=true:=by
 unfold IW at h;simp only [dR]at h;obtain⟨i,_,hi⟩:=Xu.1 h.2;have hi:fD P ops i=some j:=by simpa using hi
 obtain⟨_,q,t,_,_,_,_,hq,hm,hg,hd,_⟩:=nK hi;unfold lP;rw [hq];unfold Pu;simp [hg,hd,Ew hm]
end
section
variable{E:Env}{w0:World}{ops:Array Oper}
theorem Inv.early{ro:Option Nat}{Q:Exit->Act->World->Prop}{U0:Rn}{wa:World}{L:Array Bool}{taken:List Nat}{m:Nat}{L':Array Bool}{X:List (Nat×Option Nat)}{J:List (Nat×Value)}{U:Rn}{A:bA}{a:Act}{S:St}{w:World}
 (xN:Plain ops) (Hq:w0.heap.size<=wa.heap.size) (h:Inv E w0 ops U0 wa L taken (m+1) L' X J U A a S w) {d:Nat} {o:Oper} (ho:ops[d]? =some o) (tW:d∈Region.ready .any ops L') (DZ:lP E.P ops d=true)
 (JH:DY ops d=true) (NP:GE ops o=true) (rJ:∀p∈taken,dep ops d p=false->leaves ops o p=true) {BX:List Nat} {k:Bool} (Ze:zU E ops A S BX k=true) (aBu:∀i∈BX,jI ops i=true)
 (rY:∀i∈taken,jI ops i=true->i∈BX) {e:Tmp} (hd:o.dst=some e) (aOB:A.tmps.t.get e=none) {c:List Nat} (Pw:oH E ops c A S (fun A S=>IX E ops d o A S fun _ _=>true)=true)
 (hc:∀i∈c,∃p∈X,p.1=i) (hcg:∀i∈c,IW E.P ops i=false) (hcn:c.Nodup) {K:Act->World->Prop}
 (hK:∀a' w' X',Inv E w0 ops U0 wa L taken m (L'.setIfInBounds d true) X' (J.filter fun p=> !dep ops d p.1) U A a' S w'->K a' w'):wpOpIn (VD ro) 0 E.P ops Q d K a w:=by
 obtain⟨U1,A1,S1,Za,xO,_,hX1,_⟩:=SQ Hq c Pw h.hs h.RN hc hcg h.xf h.xb hcn;obtain⟨⟨aQF,hdn⟩,_,hdw⟩:=kW.1 tW
 have aBD:∀j,fD E.P ops d=some j->∃b,(j,some b)∈X/\EF E.P ops wa.heap.size U a w (j,some b)/\EF E.P ops wa.heap.size U1 a w (j,some b)/\∀q,ops[j]? =some q->e∉q.looksAt ops/\q.dst≠some e:=by
  intro j hj;obtain⟨_,q,t,_,_,_,_,hq,hm,_,_,aLQ⟩:=nK hj;have ZV:On L' j:=hdw j (aFb.1 aLQ);have hgj:=Na hj;rcases(h.on j).1 ZV with h1 | ⟨⟨j',ob⟩,hp,h1⟩
  ·rw [h.lg j h1]at hgj;cases hgj
  ·have h1:j'=j:=h1
   subst h1;have hef:=h.xf _ hp;have hap:=h.apart ho hdn hp;have hjc:j'∉c:=fun hm=>by rw [hcg _ hm]at hgj;cases hgj
   cases ob with
   | none=>
    exfalso;cases hef with
    | pure Yx _ Zf _ _=>
     rw [hq]at Yx;injection Yx with Yx;subst Yx;rw [Kk hm]at Zf;cases Zf
   | some b=>exact⟨b,hp,hef,hX1 _ hp hjc,fun q hq=>hap q hq e hd⟩
 obtain⟨v',wn,ob,hr,hwn,hef,hob⟩:=aGW xN h.hs Hq h.RN.fr.1 h.hs.rel.loc ho hd (WW NP e hd) DZ (X:=X) xO aBD Za h.RN;have hg:o.guard=none:=Ez ho DZ;have aSq:(a.put o.dst v').defers=a.defers:=by rw [hd];rfl
 have hsr:SR E.P w0 U A (a.put o.dst v') S wn:=by
  refine⟨by rw [hd];exact h.hs.act.aOA aOB v',?_,by rw [aSq];exact h.hs.marks⟩;rcases hwn with rfl | ⟨x,rfl⟩
  ·exact h.hs.rel
  ·exact h.hs.rel.grow x
 refine aLW xN ho hg hr (hK _ _ ((d,ob)::X) ⟨hsr,?_,h.szL,Array.size_setIfInBounds.trans h.sz,fun j=>?_,h.down.set tW,fun p hp=>?_,fun p hp=>?_,fun p hp q hq hpq=>?_,fun p hp q hq b Dv NN hg1 hc1=>?_,fun p hp j hj=>?_,h.lg,fun p hp=>?_,Zd aQF hdn h.fuel,?_,fun p hp q hq=>?_⟩)
 ·rcases hwn with rfl | ⟨x,rfl⟩
  ·exact h.RN
  ·exact h.RN.grow x
 ·rw [On.set aQF,h.on]
  constructor
  ·rintro((h1 | ⟨p,hp,h1⟩) | h1)
   ·exact .inl h1
   ·exact .inr ⟨p,.tail _ hp,h1⟩
   ·exact .inr ⟨_,.head _,h1.symm⟩
  ·rintro(h1 | ⟨p,hp,h1⟩)
   ·exact .inl (.inl h1)
   ·rcases cC.1 hp with rfl | hp
    ·exact .inr h1.symm
    ·exact .inl (.inr ⟨p,hp,h1⟩)
 ·rcases cC.1 hp with rfl | hp
  ·exact hef
  ·have h1:=(h.xf p hp).put xN (d:=o.dst) (v:=v') (h.apart ho hdn hp) (h.aDv ho hdn hp)
   rcases hwn with rfl | ⟨x,rfl⟩
   ·exact h1
   ·exact h1.grow x
 ·rcases cC.1 hp with rfl | hp
  ·refine⟨JH,DZ,fun h1=>hdn ((h.on _).2 (.inl h1))⟩
  ·exact h.xl p hp
 ·have hX:∀p∈X,p.1≠d:=fun p hp e=>hdn ((h.on _).2 (.inr ⟨p,hp,e⟩))
  rcases cC.1 hp with rfl | hp<;>rcases cC.1 hq with rfl | hq
  ·rfl
  ·exact aX hpq.symm (hX q hq)
  ·exact aX hpq (hX p hp)
  ·exact h.xd p hp q hq hpq
 ·have hX:∀p∈X,∀b,p.2=some b->b<w.heap.size:=fun p hp b hb=>by
   have:=h.xf p hp;cases this with
   | pure=>cases hb
   | mk _ _ _ _ _ _ hw _=>injection hb with hb;subst hb;exact(sQ.1 hw).1
   | conv _ _ _ _ _ _ _ _ _ _ hw _=>injection hb with hb;subst hb;exact(sQ.1 hw).1
  rcases cC.1 hp with rfl | hp<;>rcases cC.1 hq with rfl | hq
  ·rfl
  ·rcases hob b Dv with ⟨_,e1⟩ | ⟨j,hj,_⟩
   ·have:=hX q hq b NN;omega
   ·have hc1:fD E.P ops d=none:=hc1
    rw [hj]at hc1;cases hc1
  ·rcases hob b NN with ⟨_,e1⟩ | ⟨j,hj,hjX⟩
   ·have:=hX p hp b Dv;omega
   ·have e2:=h.xb p hp _ hjX b Dv rfl hg1 hc1
    rw [e2]at hg1;have hg1:IW E.P ops j=false:=hg1;rw [Na hj]at hg1;cases hg1
  ·exact h.xb p hp q hq b Dv NN hg1 hc1
 ·rcases cC.1 hp with rfl | hp
  ·obtain⟨b,hb,_⟩:=aBD j hj
   exact⟨_,.tail _ hb,rfl⟩
  ·obtain⟨q,hq,e1⟩:=h.xs p hp j hj
   exact⟨q,.tail _ hq,e1⟩
 ·obtain⟨hp,hdp⟩:=kA.1 hp
  obtain⟨Vz,hkn⟩:=h.jf p hp;refine⟨Vz,?_⟩;have hlv:=rJ p.1 Vz (by simpa using hdp);rcases hkn with ⟨q,k1,k2,k3⟩ | ⟨q,d',k1,k2,k3,k4,k5⟩
  ·exact .inl ⟨q,k1,k2,fun w=>(Yl.put xN (fun q hq t ht=>(yD hlv hq t ht).1)).2 (k3 w)⟩
  ·have hil:jI ops p.1=true:=by unfold jI;rw [k1];simp [k2,k4]
   obtain⟨_,h2⟩:=Cs hsr Ze aBu;obtain⟨o2,d2,u',z1,z2,z3,z4⟩:=h2 p.1 (rY _ Vz hil);rw [k1]at z1;injection z1 with z1;subst z1;rw [k4]at z2;injection z2 with z2;subst z2;have oX:o.dst≠some d':=fun e=>(yD hlv k1 d' e).2 k4;have hu:u'=p.2:=k5 u' (by rw [<-z3,uW oX]);subst hu;refine .inr ⟨q,d',k1,k2,z4,k4,fun u hu=>?_⟩;rw [z3]at hu;injection hu with hu;exact hu.symm
 ·rw [Ca,List.reverse_cons]
  refine h.xr.snoc fun e he=>?_;rcases(h.on e).1 (hdw e he)with h1 | ⟨p,hp,h1⟩
  ·exact .inl h1
  ·exact .inr (.inr (Oh.2 (kS.2 ⟨p,hp,h1⟩)))
 ·obtain⟨hp,hdp⟩:=kA.1 hp
  rcases cC.1 hq with rfl | hq
  ·simpa using hdp
  ·exact h.jx p hp q hq
end
section
variable{E:Env}{w0:World}{ops:Array Oper}
theorem Inv.aBE{ro:Option Nat}{Q:Exit->Act->World->Prop} (hQp:∀c a w,¬Q (.panic c) a w){U0:Rn}{wa:World}{L:Array Bool}{taken:List Nat}{m:Nat}{L':Array Bool}{X:List (Nat×Option Nat)}{J:List (Nat×Value)}{U:Rn}{A:bA}{a:Act}{S:St}{w:World}
 (xN:Plain ops) (Hq:w0.heap.size<=wa.heap.size) {i:Nat} {o:Oper} (ho:ops[i]? =some o) (LI:i∈Region.ready .any ops L) (Cv:neutral E.P o=true) (JH:Region.free .any ops L i=true) (NP:GE ops o=true)
 (rJ:taken.all (leaves ops o)=true) (EA:(rI E.P o || jI ops i)=true) {rest:bA->St->Bool} (hk:Ck E ops o A S rest=true)
 (ih:∀{m:Nat} {L':Array Bool} {X:List (Nat×Option Nat)} {J:List (Nat×Value)} {U:Rn} {A:bA} {a:Act} {S:St} {w:World},rest A S=true->Inv E w0 ops U0 wa (L.setIfInBounds i true) (i::taken) m L' X J U A a S w->DV ro E.P ops Q m J L' a w)
 (h:Inv E w0 ops U0 wa L taken m L' X J U A a S w):DV ro E.P ops Q m J L' a w:=by
 obtain⟨⟨Py,Th⟩,_,hiw⟩:=kW.1 LI;by_cases ZV:On L' i
 ·
   rcases(h.on i).1 ZV with h1 | ⟨p,hp,hpi⟩
   ·exact aX h1 Th
   ·have DZ:lP E.P ops i=true:=by
     have:=(h.xl p hp).2.1;rw [hpi]at this;exact this
    have hg:o.guard=none:=Ez ho DZ;obtain⟨hng,hnc⟩:=Fa ho Cv
    have hk:oH E ops [i] A S rest=true:=by
     unfold Ck DO at hk;rw [hg]at hk;unfold oH;rw [bU];simp only [ho];unfold IX;rw [hnc];exact hk
    obtain⟨U',A',S',g1,g2,g3,g4,g5⟩:=SQ Hq [i] hk h.hs h.RN (fun j hj=>⟨p,hp,hpi.trans (Od.1 hj).symm⟩) (fun j hj=>by rw [Od.1 hj];exact hng) h.xf h.xb (by simp);have hX:∀q,q∈X.filter (fun q=>q.1 != i)↔q∈X/\q.1≠i:=fun q=>by rw [kA];simp
    refine ih g1 (X:=X.filter fun q=>q.1 != i) ⟨g2,g3,Array.size_setIfInBounds.trans h.szL,h.sz,fun j=>?_,h.down,fun q hq=>?_,fun q hq=>?_,fun q hq r hr=>h.xd q ((hX q).1 hq).1 r ((hX r).1 hr).1,fun q hq r hr=>h.xb q ((hX q).1 hq).1 r ((hX r).1 hr).1,fun q hq j hj=>?_,fun j hj=>?_,fun q hq=>⟨.tail _ (h.jf q hq).1,(h.jf q hq).2⟩,h.fuel,?_,fun q hq r hr=>h.jx q hq r ((hX r).1 hr).1⟩
    ·rw [h.on,On.set Py]
     constructor
     ·rintro(h1 | ⟨q,hq,h1⟩)
      ·exact .inl (.inl h1)
      ·by_cases e:j=i
       ·exact .inl (.inr e)
       ·exact .inr ⟨q,(hX q).2 ⟨hq,by rw [h1];exact e⟩,h1⟩
     ·rintro((h1 | h1) | ⟨q,hq,h1⟩)
      ·exact .inl h1
      ·exact .inr ⟨p,hp,hpi.trans h1.symm⟩
      ·exact .inr ⟨q,((hX q).1 hq).1,h1⟩
    ·exact g4 q ((hX q).1 hq).1 (by simpa using((hX q).1 hq).2)
    ·obtain⟨x1,x2,x3⟩:=h.xl q ((hX q).1 hq).1
     refine⟨x1,x2,fun hh=>?_⟩;rcases(On.set Py).1 hh with hh | hh
     ·exact x3 hh
     ·exact((hX q).1 hq).2 hh
    ·obtain⟨r,hr,hrj⟩:=h.xs q ((hX q).1 hq).1 j hj
     refine⟨r,(hX r).2 ⟨hr,fun e=>?_⟩,hrj⟩;have:=Na hj;rw [<-hrj,e,hng]at this;cases this
    ·rcases(On.set Py).1 hj with hj | hj
     ·exact h.lg j hj
     ·rw [hj];exact hng
    ·have e1:((X.filter fun q=>q.1 != i).map Prod.fst).reverse=(X.map Prod.fst).reverse.filter fun j=>j != i:=by
      rw [List.filter_reverse,List.filter_map];rfl
     rw [e1];refine h.xr.filter (fun e he=>(On.set Py).2 (.inl he)) (fun e he=>by cases he) fun e _ he=>(On.set Py).2 (.inr (by simpa using he))
 ·have aFc:i<L'.size:=by rw [h.sz,<-h.szL];exact Py
  have aNI:i∈Region.ready .any ops L':=kW.2 ⟨⟨aFc,ZV⟩,by rw [<-h.szL];exact Py,fun e he=>(h.on e).2 (.inl (hiw e he))⟩;cases m with
  | zero=>exact aX (Px h.fuel aFc) ZV
  | succ m=>
   have hs:=h.hs;unfold Ck at hk;have hk:=SM hs.act hk;have aIx:∀(v:Value) (w:World),Yl E.P ops i v a w->Yl E.P ops i v (a.put o.dst v) w:=fun v w h=>(Yl.put xN (fun o' WS t ht=>by rw [ho]at WS;injection WS with WS;subst WS;exact WW NP t ht)).2 h
   have hold:∀(v:Value),∀p∈J,Kn E.P ops a w p->Kn E.P ops (a.put o.dst v) w p:=by
    intro v p hp hh;have hlv:=dL.1 rJ p.1 (h.jf p hp).1;have wB:∀w,Yl E.P ops p.1 p.2 a w->Yl E.P ops p.1 p.2 (a.put o.dst v) w:=fun w h=>(Yl.put xN (fun q hq t ht=>(yD hlv hq t ht).1)).2 h;rcases hh with ⟨q,h1,h2,h3⟩ | ⟨q,d,h1,h2,h3,h4,h5⟩
    ·exact .inl ⟨q,h1,h2,fun w=>wB w (h3 w)⟩
    ·refine .inr ⟨q,d,h1,h2,wB w h3,h4,fun u hu=>h5 u ?_⟩
     rw [uW]at hu
     ·exact hu
     ·intro e;exact(yD hlv h1 d e).2 h4
   have go:∀(v v':Value),mV A o.dst v (fun A=>rest A S)=true->VR U v v'->Kn E.P ops (a.put o.dst v') w (i,v')->DV ro E.P ops Q (m+1) J L' a w:=by
    intro v v' hk hv hkn;obtain⟨U',A',S',g1,g2,g3⟩:=WQ (k:=rest) hs ⟨U,v,S,hk,hv,hs.rel,.refl U w⟩;refine DV.take xN hQp ho (WW NP) m J L' a w (fun j oj hj hji hun xP=>Region.free_spec ho JH j oj hj hji ?_ xP) (fun p hp q hq t ht=>?_) aNI (v:=v') ?_
    ·have h1:=Pv.1 hun
     exact Pv.2 ⟨by rw [h.szL,<-h.sz];exact h1.1,fun hh=>h1.2 ((h.on _).2 (.inl hh))⟩
    ·exact(yD (dL.1 rJ p.1 (h.jf p hp).1) hq t ht).1
    ·refine ih g1 (X:=X) ⟨g2,h.RN.trans g3,Array.size_setIfInBounds.trans h.szL,Array.size_setIfInBounds.trans h.sz,fun j=>?_,h.down.set aNI,fun q hq=>((h.xf q hq).put xN (h.apart ho ZV hq) (h.aDv ho ZV hq)).RN g3,fun q hq=>?_,h.xd,h.xb,h.xs,fun j hj=>?_,fun p hp=>?_,Zd aFc ZV h.fuel,?_,fun p hp q hq=>?_⟩
     ·rw [On.set aFc,On.set Py,h.on]
      constructor
      ·rintro((h1 | h1) | h1)
       ·exact .inl (.inl h1)
       ·exact .inr h1
       ·exact .inl (.inr h1)
      ·rintro((h1 | h1) | h1)
       ·exact .inl (.inl h1)
       ·exact .inr h1
       ·exact .inl (.inr h1)
     ·obtain⟨x1,x2,x3⟩:=h.xl q hq
      refine⟨x1,x2,fun hh=>?_⟩;rcases(On.set Py).1 hh with hh | hh
      ·exact x3 hh
      ·exact ZV (hh▸(h.on _).2 (.inr ⟨q,hq,rfl⟩))
     ·rcases(On.set Py).1 hj with hj | hj
      ·exact h.lg j hj
      ·rw [hj];exact(Fa ho Cv).1
     ·rcases cC.1 hp with rfl | hp
      ·exact⟨.head _,hkn⟩
      ·exact⟨.tail _ (h.jf p hp).1,hold v' p hp (h.jf p hp).2⟩
     ·have:=h.xr.filter (t2:=L.setIfInBounds i true) (pre2:=[]) (q:=fun _=>true) (fun e he=>(On.set Py).2 (.inl he)) (fun e he=>by cases he) (fun e _ he=>by cases he)
      rwa [List.filter_eq_self.2 (fun _ _=>rfl)]at this
     ·rcases cC.1 hp with rfl | hp
      ·cases hdq:dep ops q.1 i with
       | false=>rfl
       | true=>exact aX (h.down q.1 ((h.on _).2 (.inr ⟨q,hq,rfl⟩)) i (aFb.1 hdq)) ZV
      ·exact h.jx p hp q hq
   have kn:∀(v':Value),(rI E.P o=true->∀w,Yl E.P ops i v' a w)->Yl E.P ops i v' a w->Kn E.P ops (a.put o.dst v') w (i,v'):=by
    intro v' h1 h2;cases Zf:rI E.P o with
    | true=>exact .inl ⟨o,ho,Zf,fun w=>aIx v' w (h1 Zf w)⟩
    | false=>
     have hl:jI ops i=true:=by rw [Zf]at EA;simpa using EA
     unfold jI at hl;rw [ho]at hl;simp only [dR]at hl;obtain⟨d,hd⟩:=Ht.1 hl.2;refine .inr ⟨o,d,ho,hl.1,aIx v' w h2,hd,?_⟩;rw [hd];exact HF
   cases hw:Region.wanted o (yielded ops a.tmps)with
   | true=>
    rw [hw]at hk;have hk:AN E o A S (fun v S=>mV A o.dst v fun A=>rest A S)=true:=hk;cases Zf:rI E.P o with
    | true=>
     obtain⟨v,v',hk,hv,fU⟩:=SO hs.rel hs.act Zf hk;exact go v v' hk hv (kn v' (fun _ w=>⟨o,ho,.inl ⟨hw,fU w⟩⟩) ⟨o,ho,.inl ⟨hw,fU w⟩⟩)
    | false=>
     have hl:DW o=true:=by
      unfold neutral at Cv;rw [Zf]at Cv;simpa using Cv
     obtain⟨v,v',hk,hv,fU⟩:=Er hs.rel hs.act hl hk;exact go v v' hk hv (kn v' (fun h=>by rw [Zf]at h;cases h) ⟨o,ho,.inl ⟨hw,fU⟩⟩)
   | false=>
    rw [hw]at hk;have hk:mV A o.dst undef (fun A=>rest A S)=true:=hk;exact go undef undef hk .undef (kn undef (fun _ w=>⟨o,ho,.inr ⟨hw,rfl⟩⟩) ⟨o,ho,.inr ⟨hw,rfl⟩⟩)
end
section
variable{E:Env}{w0:World}{ops:Array Oper}
theorem HW{P:Program}{l:List Nat}{d i:Nat}:i∈vK P ops l d↔(i∈l/\As ops ops.size d i=true)/\IW P ops i=false:=by
 unfold vK;rw [kA,kA];simp
structure Ask (E:Env) (ops:Array Oper) (L:Array Bool) (taken:List Nat) (A:bA) (S:St) (c:Array Bool×List Nat):Prop where
 close:LH E.P ops ops.size L []=c
 ok:∀d∈c.2,DY ops d=true/\∃o,ops[d]? =some o/\GE ops o=true/\∀p∈taken,dep ops d p=false->leaves ops o p=true
 BX:∃(BX:List Nat) (k:Bool),zU E ops A S BX k=true/\(∀i∈BX,jI ops i=true)/\(c.2≠[]->∀i∈taken,jI ops i=true->i∈BX)
 pre:∀d∈c.2,∃o e,ops[d]? =some o/\o.dst=some e/\A.tmps.t.get e=none/\oH E ops (vK E.P ops c.2 d) A S (fun A S=>IX E ops d o A S fun _ _=>true)=true
theorem Inv.pick{ro:Option Nat}{Q:Exit->Act->World->Prop}{U0:Rn}{wa:World}{L:Array Bool}{taken:List Nat}{m:Nat}{L':Array Bool}{X:List (Nat×Option Nat)}{J:List (Nat×Value)}{U:Rn}{A:bA}{a:Act}{S:St}{w:World}{c:Array Bool×List Nat}
 (xN:Plain ops) (Hq:w0.heap.size<=wa.heap.size) (QD:Ask E ops L taken A S c) (h:Inv E w0 ops U0 wa L taken (m+1) L' X J U A a S w) {d:Nat} (hd:d∈c.2) (tW:d∈Region.ready .any ops L')
 {K:Act->World->Prop} (hK:∀a' w' X',Inv E w0 ops U0 wa L taken m (L'.setIfInBounds d true) X' (J.filter fun p=> !dep ops d p.1) U A a' S w'->K a' w'):wpOpIn (VD ro) 0 E.P ops Q d K a w:=by
 obtain⟨mm,h1,_,_,h4,h5,_⟩:=CN _ _ _ QD.close;have e2:c.2=mm:=by rw [h1];rfl
 rw [<-e2]at h4 h5;obtain⟨JH,o,ho,NP,rJ⟩:=QD.ok d hd;obtain⟨BX,k,Ze,aBu,rY⟩:=QD.BX;obtain⟨o',e,WS,hde,aOB,Pw⟩:=QD.pre d hd;rw [ho]at WS;injection WS with WS;subst WS;have DZ:lP E.P ops d=true:=(h4 d hd).1;refine Inv.early xN Hq h ho tW DZ JH NP rJ Ze aBu (rY (fun e=>by rw [e]at hd;cases hd)) hde aOB Pw (fun i hi=>?_) (fun i hi=>(HW.1 hi).2) ((h5.filter _).filter _) hK;obtain⟨⟨JI,Ui⟩,_⟩:=HW.1 hi;have ZV:On L' i:=h.down.As _ _ _ (kW.1 tW).2.2 Ui;rcases(h.on i).1 ZV with h6 | h6
 ·exact aX h6 (h4 i JI).2.2
 ·exact h6
end
section
variable{E:Env}{w0:World}{ops:Array Oper}
theorem aBF{P:Program}{L:Array Bool}{c:Array Bool×List Nat} (hsz:L.size=ops.size) (hc:LH P ops ops.size L []=c) (xP:∀i∈Region.ready .any ops c.1,lP P ops i=false):
 ∀(l pre:List Nat),CM ops L pre l->(∀e∈pre,On c.1 e)->(∀i∈l,lP P ops i=true/\i<ops.size)->∀i∈l,On c.1 i:=by
 obtain⟨mm,h1,h2,h3,_⟩:=CN _ _ _ hc;intro l;induction l with
 | nil=>intro _ _ _ _ i hi;cases hi
 | cons d l ih=>
  intro pre h Pw hl
  have hd:On c.1 d:=by
   by_cases ZV:On c.1 d
   ·exact ZV
   ·obtain⟨Vt,FF⟩:=hl d (.head _)
    have hr:d∈Region.ready .any ops c.1:=kW.2 ⟨⟨by rw [h2,hsz];exact FF,ZV⟩,FF,fun e he=>(h.1 e he).elim (fun h=>(h3 e).2 (.inl h)) (Pw e)⟩;rw [xP d hr]at Vt;cases Vt
  intro i hi;rcases cC.1 hi with rfl | hi
  ·exact hd
  ·exact ih (d::pre) h.2 (fun e he=>by
    rcases cC.1 he with rfl | he
    ·exact hd
    ·exact Pw e he) (fun i hi=>hl i (.tail _ hi)) i hi
theorem Fb{P:Program}{i:Nat} (h:lP P ops i=true):i<ops.size:=by
 unfold lP at h;split at h
 ·rename_i o ho;exact(sQ.1 ho).1
 ·cases h
section
variable{U0:Rn}{wa:World}{L:Array Bool}{taken:List Nat}{m:Nat}{L':Array Bool}{X:List (Nat×Option Nat)}{J:List (Nat×Value)}{U:Rn}{A:bA}{a:Act}{S:St}{w:World}{c:Array Bool×List Nat}
theorem Inv.aFd (h:Inv E w0 ops U0 wa L taken m L' X J U A a S w) (hc:LH E.P ops ops.size L []=c) (xP:∀i∈Region.ready .any ops c.1,lP E.P ops i=false){j:Nat} (hj:j∈Region.ready .any ops L'):j∈c.2\/j∈Region.ready .any ops c.1:=by
 obtain⟨mm,h1,h2,h3,h4,h5,h6⟩:=CN _ _ _ hc;have e2:c.2=mm:=by rw [h1];rfl
 obtain⟨⟨hj1,Uj⟩,hj3,hj4⟩:=kW.1 hj
 have hX:∀p∈X,On c.1 p.1:=fun p hp=>aBF h.szL hc xP _ [] h.xr (by simp) (fun i hi=>by
  rw [Oh,kS]at hi;obtain⟨p,hp,rfl⟩:=hi;exact⟨(h.xl p hp).2.1,Fb (h.xl p hp).2.1⟩) p.1 (by rw [Oh,kS];exact⟨p,hp,rfl⟩)
 have aOz:∀e,On L' e->On c.1 e:=fun e he=>by
  rcases(h.on e).1 he with h' | ⟨p,hp,rfl⟩
  ·exact(h3 e).2 (.inl h')
  ·exact hX p hp
 by_cases ZV:On c.1 j
 ·rcases(h3 j).1 ZV with h' | h'
  ·exact aX ((h.on j).2 (.inl h')) Uj
  ·exact .inl (by rw [e2];exact h')
 ·exact .inr (kW.2 ⟨⟨by rw [h2,h.szL];exact hj3,ZV⟩,hj3,fun e he=>aOz e (hj4 e he)⟩)
theorem Inv.yl (h:Inv E w0 ops U0 wa L taken m L' X J U A a S w):∀p∈J,Yl E.P ops p.1 p.2 a w:=fun p hp=>(h.jf p hp).2.yl
theorem Inv.aFe{ro:Option Nat}{Q:Exit->Act->World->Prop} (hc:lG E.P w0 E.call) (hr:oG E.P w0 E.round) (xN:Plain ops) (Hq:w0.heap.size<=wa.heap.size) (QD:Ask E ops L taken A S c){r:Nat}{o:Oper} (ho:ops[r]? =some o)
 (tW:Region.ready .any ops c.1=[r]) (Ye:lP E.P ops r=false) {D rK:List Nat} (hD:D=vK E.P ops c.2 r) (ht':rK=taken.filter fun p=> !dep ops r p&&D.all fun d=> !dep ops d p) (rJ:rK.all (leaves ops o)=true)
 {rest:bA->St->Bool} (hk:oH E ops D A S (fun A S=>Ck E ops o A S fun A S=>zU E ops A S (rK.filter (jI ops)) (rest A S))=true)
 (ih:∀{m:Nat} {L':Array Bool} {X:List (Nat×Option Nat)} {J:List (Nat×Value)} {U:Rn} {A:bA} {a:Act} {S:St} {w:World},rest A S=true->Inv E w0 ops U0 wa ((D.foldl (fun t i=>t.setIfInBounds i true) L).setIfInBounds r true) rK m L' X J U A a S w->DV ro E.P ops Q m J L' a w):
 ∀(m:Nat) {L':Array Bool} {X:List (Nat×Option Nat)} {J:List (Nat×Value)} {a:Act} {w:World},Inv E w0 ops U0 wa L taken m L' X J U A a S w->DV ro E.P ops Q m J L' a w:=by
 obtain⟨mm,h1,h2,h3,h4,h5,h6⟩:=CN _ _ _ QD.close;have e2:c.2=mm:=by rw [h1];rfl
 rw [<-e2]at h3 h4 h5 h6;have hrc:r∈Region.ready .any ops c.1:=by rw [tW];exact .head _
 obtain⟨⟨hr1,hr2⟩,hr3,hr4⟩:=kW.1 hrc
 have xP:∀i∈Region.ready .any ops c.1,lP E.P ops i=false:=fun i hi=>by
  rw [tW]at hi;rw [Od.1 hi];exact Ye
 have hrL:¬On L r:=fun h=>hr2 ((h3 r).2 (.inl h));have aH8:CM ops L [] (c.2++[r]):=h6.snoc fun e he=>((h3 e).1 (hr4 e he)).imp id fun h=> .inr h
 have hrn:∀{m:Nat} {L':Array Bool} {X:List (Nat×Option Nat)} {J:List (Nat×Value)} {a:Act} {w:World},Inv E w0 ops U0 wa L taken m L' X J U A a S w->¬On L' r:=fun h ZV=>by
  rcases(h.on r).1 ZV with h' | ⟨p,hp,e⟩
  ·exact hrL h'
  ·have:=(h.xl p hp).2.1
   rw [e,Ye]at this;cases this
 intro m;induction m with
 | zero=>
  intro L' X J a w h;exact aX (Px h.fuel (by rw [h.sz];exact hr3)) (hrn h)
 | succ m ihm=>
  intro L' X J a w h;have hrn:=hrn h;refine⟨h.yl,fun Tx=>?_,fun j hj=>?_⟩
  ·obtain⟨i,_,hi⟩:=aH8.ready h.sz (fun j hj=>(h.on j).2 (.inl hj)) (by simp) (fun i hi=>by
    rcases BM.1 hi with hi | hi
    ·exact Fb (h4 i hi).1
    ·rw [Od.1 hi];exact hr3) ⟨r,by simp,hrn⟩
   rw [Tx]at hi;cases hi
  ·rcases h.aFd QD.close xP hj with Uj | Uj
   ·exact Inv.pick xN Hq QD h Uj hj fun a' w' X' h'=>ihm h'
   ·rw [tW]at Uj
    have e:=Od.1 Uj;subst e;obtain⟨⟨aQG,_⟩,_,hjw⟩:=kW.1 hj
    have hDX:∀i∈D,∃p∈X,p.1=i:=fun i hi=>by
     rw [hD]at hi;obtain⟨⟨JI,Ui⟩,_⟩:=HW.1 hi;have ZV:On L' i:=h.down.As _ _ _ hjw Ui;rcases(h.on i).1 ZV with h7 | h7
     ·exact aX h7 (h4 i JI).2.2
     ·exact h7
    have hDn:D.Nodup:=by rw [hD];exact(h5.filter _).filter _
    have hDg:∀i∈D,IW E.P ops i=false:=fun i hi=>by rw [hD]at hi;exact(HW.1 hi).2
    obtain⟨U1,A1,S1,k1,k2,k3,k4,k5⟩:=SQ Hq D hk h.hs h.RN hDX hDg h.xf h.xb hDn;have hX:∀q,q∈X.filter (fun q=> !D.contains q.1)↔q∈X/\q.1∉D:=fun q=>by rw [kA];simp
    have aQH:∀(D:List Nat) (t:Array Bool),t.size=ops.size->(∀i∈D,i<ops.size)->(D.foldl (fun t i=>t.setIfInBounds i true) t).size=ops.size/\∀j,On (D.foldl (fun t i=>t.setIfInBounds i true) t) j↔On t j\/j∈D:=by
     intro D;induction D with
     | nil=>intro t ht _;exact⟨ht,fun j=>by simp⟩
     | cons d D ihD=>
      intro t ht hl;have hdl:d<t.size:=by rw [ht];exact hl d (.head _)
      obtain⟨g1,g2⟩:=ihD (t.setIfInBounds d true) (Array.size_setIfInBounds.trans ht) fun i hi=>hl i (.tail _ hi);refine⟨g1,fun j=>(g2 j).trans ?_⟩;rw [On.set hdl,cC];constructor
      ·rintro((h | h) | h)
       ·exact .inl h
       ·exact .inr (.inl h)
       ·exact .inr (.inr h)
      ·rintro(h | h | h)
       ·exact .inl (.inl h)
       ·exact .inl (.inr h)
       ·exact .inr h
    obtain⟨f1,f2⟩:=aQH D L h.szL fun i hi=>by
     rw [hD]at hi;exact Fb (h4 i (HW.1 hi).1.1).1
    have aBG:j<(D.foldl (fun t i=>t.setIfInBounds i true) L).size:=by rw [f1];exact hr3
    have go:∀v' w',Next E.P w0 U1 w (fun A S=>zU E ops A S (rK.filter (jI ops)) (rest A S)) (a.put o.dst v') w'->
     DV ro E.P ops Q m (J.filter fun p=> !dep ops j p.1) (L'.setIfInBounds j true) (a.put o.dst v') w':=by
     rintro v' w' ⟨U',A',S',g1,g2,g3⟩
     obtain⟨z1,z2⟩:=Cs g2 g1 (fun i hi=>(kA.1 hi).2);have hap:∀p∈X,∀q,ops[p.1]? =some q->∀t,o.dst=some t->t∉q.looksAt ops/\q.dst≠some t:=fun p hp=>h.apart ho hrn hp;have aSr:∀p∈X,∀i q,fD E.P ops p.1=some i->ops[i]? =some q->∀t,o.dst=some t->t∉q.looksAt ops/\q.dst≠some t:=fun p hp=>h.aDv ho hrn hp;refine ih z1 (X:=X.filter fun q=> !D.contains q.1) ⟨g2,k3.trans g3,Array.size_setIfInBounds.trans f1,Array.size_setIfInBounds.trans h.sz,fun i=>?_,h.down.set hj,fun q hq=>?_,fun q hq=>?_,fun q hq r hr=>h.xd q ((hX q).1 hq).1 r ((hX r).1 hr).1,fun q hq r hr=>h.xb q ((hX q).1 hq).1 r ((hX r).1 hr).1,fun q hq i hi=>?_,fun i hi=>?_,fun p hp=>?_,Zd aQG hrn h.fuel,?_,fun q hq r hr=>h.jx q (kA.1 hq).1 r ((hX r).1 hr).1⟩
     ·rw [On.set aQG,On.set aBG,h.on,f2]
      constructor
      ·rintro((h' | ⟨p,hp,h'⟩) | h')
       ·exact .inl (.inl (.inl h'))
       ·by_cases e:i∈D
        ·exact .inl (.inl (.inr e))
        ·exact .inr ⟨p,(hX p).2 ⟨hp,by rw [h'];exact e⟩,h'⟩
       ·exact .inl (.inr h')
      ·rintro(((h' | h') | h') | ⟨p,hp,h'⟩)
       ·exact .inl (.inl h')
       ·exact .inl (.inr (hDX i h'))
       ·exact .inr h'
       ·exact .inl (.inr ⟨p,((hX p).1 hp).1,h'⟩)
     ·obtain⟨q1,q2⟩:=(hX q).1 hq
      exact((k4 q q1 q2).put xN (hap q q1) (aSr q q1)).RN g3
     ·obtain⟨q1,q2⟩:=(hX q).1 hq
      obtain⟨x1,x2,x3⟩:=h.xl q q1;refine⟨x1,x2,fun hh=>?_⟩;rcases(On.set aBG).1 hh with hh | hh
      ·rcases(f2 _).1 hh with hh | hh
       ·exact x3 hh
       ·exact q2 hh
      ·exact hrn (hh▸(h.on _).2 (.inr ⟨q,q1,rfl⟩))
     ·obtain⟨r,hr,hri⟩:=h.xs q ((hX q).1 hq).1 i hi
      refine⟨r,(hX r).2 ⟨hr,fun e=>?_⟩,hri⟩;have:=Na hi;rw [<-hri,hDg _ e]at this;cases this
     ·rcases(On.set aBG).1 hi with hi | hi
      ·rcases(f2 i).1 hi with hi | hi
       ·exact h.lg i hi
       ·exact hDg i hi
      ·rw [hi]
       cases hgj:IW E.P ops j with
       | false=>rfl
       | true=>rw [aGX hgj]at Ye;cases Ye
     ·obtain⟨hp,hdp⟩:=kA.1 hp
      obtain⟨Vz,hkn⟩:=h.jf p hp
      have aOC:p.1∈rK:=by
       rw [ht',kA];refine⟨Vz,?_⟩;simp only [hdp,Hz,dL];intro d hd;obtain⟨q,hq,rfl⟩:=hDX d hd;rw [h.jx p hp q hq];rfl
      refine⟨aOC,?_⟩;have hlv:=dL.1 rJ p.1 aOC;rcases hkn with ⟨q,k1,k2,k3⟩ | ⟨q,d,k1,k2,k3,k4,k5⟩
      ·exact .inl ⟨q,k1,k2,fun w=>(Yl.put xN (fun q hq t ht=>(yD hlv hq t ht).1)).2 (k3 w)⟩
      ·obtain⟨o2,d2,u',y1,y2,y3,y4⟩:=z2 p.1 (by
        rw [kA];refine⟨aOC,?_⟩;unfold jI;rw [k1];simp [k2,k4])
       rw [k1]at y1;injection y1 with y1;subst y1;rw [k4]at y2;injection y2 with y2;subst y2;have oX:o.dst≠some d:=fun e=>(yD hlv k1 d e).2 k4;have hu:u'=p.2:=k5 u' (by rw [<-y3,uW oX]);subst hu;refine .inr ⟨q,d,k1,k2,y4,k4,fun u hu=>?_⟩;rw [y3]at hu;injection hu with hu;exact hu.symm
     ·have e1:((X.filter fun q=> !D.contains q.1).map Prod.fst).reverse=(X.map Prod.fst).reverse.filter fun i=> !D.contains i:=by
       rw [List.filter_reverse,List.filter_map];rfl
      rw [e1];refine h.xr.filter (fun e he=>(On.set aBG).2 (.inl ((f2 e).2 (.inl he)))) (fun e he=>by cases he) fun e _ he=>(On.set aBG).2 (.inl ((f2 e).2 (.inr (by simpa using he))))
    unfold Ck at k1;have k1:=SM k2.act k1;unfold wpOpIn;simp only [ho];cases hw:Region.wanted o (yielded ops a.tmps)with
    | true=>
     rw [hw]at k1;have k1:AN E o A1 S1 (fun v S=>mV A1 o.dst v fun A=>zU E ops A S (rK.filter (jI ops)) (rest A S))=true:=k1;simp only [if_true];exact aIk hc hr k2.rel k2.act k1 fun v' w' hg=>go v' w' (WQ (k:=fun A S=>zU E ops A S (rK.filter (jI ops)) (rest A S)) k2 hg)
    | false=>
     rw [hw]at k1;have k1:mV A1 o.dst undef (fun A=>zU E ops A S1 (rK.filter (jI ops)) (rest A S1))=true:=k1;simp only [Hv,if_false];exact⟨fun _ _=>trivial,go undef w (WQ (k:=fun A S=>zU E ops A S (rK.filter (jI ops)) (rest A S)) k2 ⟨U1,undef,S1,k1,.undef,k2.rel,.refl U1 w⟩)⟩
theorem Inv.aFf{ro:Option Nat}{Q:Exit->Act->World->Prop} (xN:Plain ops) (Hq:w0.heap.size<=wa.heap.size) (QD:Ask E ops L taken A S c) (tW:Region.ready .any ops c.1=[]){k:bA->St->Bool} (hk:oH E ops (c.2.filter fun i=> !IW E.P ops i) A S k=true)
 (hQ:∀a' w',Next E.P w0 U0 wa k a' w'->Q .normal a' w'):
 ∀(m:Nat) {L':Array Bool} {X:List (Nat×Option Nat)} {J:List (Nat×Value)} {a:Act} {w:World},Inv E w0 ops U0 wa L taken m L' X J U A a S w->DV ro E.P ops Q m J L' a w:=by
 obtain⟨mm,h1,h2,h3,h4,h5,h6⟩:=CN _ _ _ QD.close;have e2:c.2=mm:=by rw [h1];rfl
 rw [<-e2]at h3 h4 h5 h6;have xP:∀i∈Region.ready .any ops c.1,lP E.P ops i=false:=fun i hi=>by rw [tW]at hi;cases hi
 have end_:∀{m:Nat} {L':Array Bool} {X:List (Nat×Option Nat)} {J:List (Nat×Value)} {a:Act} {w:World},Inv E w0 ops U0 wa L taken m L' X J U A a S w->Region.ready .any ops L'=[]->Q .normal a w:=by
  intro m L' X J a w h Tx
  have hX:∀i∈c.2,∃p∈X,p.1=i:=fun i hi=>by
   have ZV:On L' i:=by
    by_cases ZV:On L' i
    ·exact ZV
    ·obtain⟨j,_,hj⟩:=h6.ready h.sz (fun j hj=>(h.on j).2 (.inl hj)) (by simp) (fun i hi=>Fb (h4 i hi).1) ⟨i,hi,ZV⟩
     rw [Tx]at hj;cases hj
   rcases(h.on i).1 ZV with h7 | h7
   ·exact aX h7 (h4 i hi).2.2
   ·exact h7
  obtain⟨U1,A1,S1,k1,k2,k3,_⟩:=SQ Hq _ hk h.hs h.RN (fun i hi=>hX i (kA.1 hi).1) (fun i hi=>by simpa using(kA.1 hi).2) h.xf h.xb (h5.filter _);exact hQ a w ⟨U1,A1,S1,k1,k2,k3⟩
 intro m;induction m with
 | zero=>
  intro L' X J a w h
  have Tx:Region.ready .any ops L'=[]:=by
   cases hl:Region.ready .any ops L' with
   | nil=>rfl
   | cons j l=>
    have hj:j∈Region.ready .any ops L':=by rw [hl];exact .head _
    obtain⟨⟨hj1,Uj⟩,_⟩:=kW.1 hj;exact aX (Px h.fuel hj1) Uj
  exact⟨h.yl,Tx,end_ h Tx⟩
 | succ m ihm=>
  intro L' X J a w h;refine⟨h.yl,end_ h,fun j hj=>?_⟩;rcases h.aFd QD.close xP hj with Uj | Uj
  ·exact Inv.pick xN Hq QD h Uj hj fun a' w' X' h'=>ihm h'
  ·rw [tW]at Uj;cases Uj
end
end
section
variable{E:Env}{w0:World}{ops:Array Oper}
theorem Zg{U:Rn}{a:Act}{w:World}{L:Array Bool}{taken:List Nat}{A:bA}{S:St}{c:Array Bool×List Nat} (hs:SR E.P w0 U A a S w) (hc:LH E.P ops ops.size L []=c)
 (LJ:(c.2.all fun d=>DY ops d&&(match ops[d]? with | some o=>GE ops o&&(taken.filter fun p=> !dep ops d p).all (leaves ops o) | none=>false))=true) {K:Bool}
 (hk:zU E ops A S (match c.2 with | []=>[] | _=>taken.filter (jI ops)) (VG E ops A S (c.2.map fun d=>(d,vK E.P ops c.2 d)) K)=true):Ask E ops L taken A S c/\K=true:=by
 have hl:∀i∈(match c.2 with | []=>[] | _=>taken.filter (jI ops)),jI ops i=true:=by
  intro i hi;cases h:c.2 with
  | nil=>rw [h]at hi;cases hi
  | cons d l=>rw [h]at hi;exact(kA.1 hi).2
 obtain⟨h1,_⟩:=Cs hs hk hl;obtain⟨h2,h3⟩:=aGV h1;refine⟨⟨hc,fun d hd=>?_,⟨_,_,hk,hl,fun oX i hi hil=>?_⟩,fun d hd=>?_⟩,h2⟩
 ·have:=dL.1 LJ d hd
  simp only [dR]at this;refine⟨this.1,?_⟩;have h4:=this.2;split at h4
  ·rename_i o ho
   simp only [dR]at h4;exact⟨o,ho,h4.1,fun p hp hdp=>dL.1 h4.2 p (kA.2 ⟨hp,by rw [hdp];rfl⟩)⟩
  ·cases h4
 ·cases h:c.2 with
  | nil=>exact aX h oX
  | cons d l=>exact kA.2 ⟨hi,hil⟩
 ·obtain⟨o,e,q1,q2,q3,q4⟩:=h3 (d,vK E.P ops c.2 d) (kS.2 ⟨d,hd,rfl⟩)
  exact⟨o,e,q1,q2,q3,q4⟩
theorem Pz{U:Rn}{a:Act}:∀{l:List Nat} {A:bA} {k:bA->Bool},BR E.P U A a->WZ ops l A k=true->∃A',k A'=true/\BR E.P U A' a/\A'.marks=A.marks:=by
 intro l;induction l with
 | nil=>intro A k hA hk;exact⟨A,hk,hA,rfl⟩
 | cons i l ih=>
  intro A k hA hk;unfold WZ at hk;rw [bU]at hk;split at hk
  ·split at hk
   ·rename_i o ho d hd
    rw [aE9]at hk
    obtain⟨A',h1,h2,h3⟩:=ih (A:={A with tmps:=⟨A.tmps.t.del d,A.tmps.n⟩}) ⟨⟨hA.tmps.1,fun j v hj=>hA.tmps.2 j v (by
     have hj:(A.tmps.t.del d).get j=some v:=hj;rw [Eu]at hj;split at hj
     ·cases hj
     ·exact hj)⟩,hA.g⟩ hk
    exact⟨A',h1,h2,h3⟩
   ·cases hk
  ·cases hk
end
section
variable{β:Type}
def Ng (l:List Bool) (k:List Bool->β):β:=
 iD (β:=(List Bool->β)->β) (fun k=>k []) (fun b _ ih k=>gE b (ih fun t=>k (true::t)) (ih fun t=>k (false::t))) l k
theorem aDC:∀(l:List Bool) (k:List Bool->β),Ng l k=k l:=by
 intro l;induction l with
 | nil=>intro k;rfl
 | cons b l ih=>
  intro k;show gE b (Ng l fun t=>k (true::t)) (Ng l fun t=>k (false::t))=_;rw [ih,ih];cases b<;>rfl
def Iq (t:Array Bool) (k:Array Bool->β):β:=Ng t.toList fun l=>k ⟨l⟩
theorem QE (t:Array Bool) (k:Array Bool->β):Iq t k=k t:=aDC _ _
def Ir (P:Program) (ops:Array Oper):List Nat->Array Bool->List Nat->(Array Bool->List Nat->β)->β
 | [],t,l,k=>k t l
 | i::is,t,l,k=>match lP P ops i&&NS ops t i with
  | true=>Iq (t.setIfInBounds i true) fun t=>Ir P ops is t (l++[i]) k
  | false=>Ir P ops is t l k
theorem Wc (P:Program) (ops:Array Oper):∀(is:List Nat) (t:Array Bool) (l:List Nat) (k:Array Bool->List Nat->β),Ir P ops is t l k=k (LG P ops is t l).1 (LG P ops is t l).2:=by
 intro is;induction is with
 | nil=>intro t l k;rfl
 | cons i is ih=>
  intro t l k;unfold Ir LG;cases lP P ops i&&NS ops t i with
  | true=>simp only [QE,ih]
  | false=>simp only [ih]
end
def aIE (l:List Nat):Nat:=l.foldl (fun m t=>Nat.lor m (Nat.shiftLeft 1 t)) 0
theorem Wd{l:List Nat}{t:Nat} (h:t∈l):Nat.testBit (aIE l) t=true:=by
 unfold aIE
 have key:∀(l:List Nat) (m:Nat),(t∈l\/Nat.testBit m t=true)->Nat.testBit (l.foldl (fun m t=>Nat.lor m (Nat.shiftLeft 1 t)) m) t=true:=by
  intro l;induction l with
  | nil=>intro m h;rcases h with h | h
         ·cases h
         ·exact h
  | cons u l ih=>
   intro m h;refine ih _ ?_;show t∈l\/Nat.testBit (m ||| 1 <<< u) t=true;rw [Nat.testBit_or,VX,Nat.one_shiftLeft,Nat.testBit_two_pow];rcases h with h | h
   ·rcases cC.1 h with rfl | h
    ·exact .inr (.inr (by simp))
    ·exact .inl h
   ·exact .inr (.inl h)
 exact key l 0 (.inl h)
def aIF (ops:Array Oper):List (Nat×Option Nat):=ops.toList.map fun o=>(aIE (o.looksAt ops),o.dst)
def aBO (ops:Array Oper) (listed:Array Bool) (i:Nat):Bool:=match(aIF ops)[i]? with
 | none=>false
 | some (a,d)=>(List.range ops.size).all fun j=>(match(aIF ops)[j]? with
  | none=>true
  | some (lk,e)=>(match d with | some d=> !Nat.testBit lk d&&(match e with | some e=> !Nat.beq e d | none=>true) | none=>true)&&(match e with | some e=> !Nat.testBit a e | none=>true)) || (j==i || listed.getD j true || dep ops j i)
theorem Qh{ops:Array Oper}{listed:Array Bool}{i:Nat} (h:aBO ops listed i=true):Region.free .any ops listed i=true:=by
 unfold aBO aIF at h;unfold Region.free;rw [dJ]at h;cases hi:ops[i]? with
 | none=>
  have:ops.toList[i]? =none:=by simpa using hi
  rw [this]at h;cases h
 | some oi=>
  have hil:ops.toList[i]? =some oi:=by simpa using hi
  rw [hil]at h;simp only [DK]at h;simp only [dL,FU]at h ⊢;intro j hj;have h1:=h j hj;have hjl:ops.toList[j]? =some ops[j]:=by simp [hj]
  rw [dJ,hjl]at h1;rw [Hs hj];simp only [DK,VX]at h1 ⊢;rcases h1 with h1 | (h1 | h1) | h1
  ·refine .inr (.inr ?_)
   unfold Oper.apart;simp only [dR]at h1 ⊢;obtain⟨g1,g2⟩:=h1;constructor
   ·cases hd:oi.dst with
    | none=>rfl
    | some d=>
     rw [hd]at g1;simp only [dR,IR]at g1 ⊢;refine⟨?_,?_⟩
     ·cases hc:(ops[j].looksAt ops).contains d with
      | false=>rfl
      | true=>rw [Wd (List.contains_iff_mem.1 hc)]at g1;cases g1.1
     ·cases he:ops[j].dst with
      | none=>rfl
      | some e=>
       rw [he]at g1;have g3:=g1.2;simp only [IR]at g3;have:e≠d:=VT g3;simpa using this
   ·cases he:ops[j].dst with
    | none=>rfl
    | some e=>
     rw [he]at g2;simp only [IR]at g2 ⊢;cases hc:(oi.looksAt ops).contains e with
     | false=>rfl
     | true=>rw [Wd (List.contains_iff_mem.1 hc)]at g2;cases g2
  ·exact .inl (.inl h1)
  ·exact .inl (.inr h1)
  ·refine .inr (.inl ?_)
   unfold dep at h1;rw [Hs hj]at h1;exact h1
def QF (P:Program) (ops:Array Oper):Nat->List Nat->Array Bool->List Nat->Option (List zJ)
 | 0,_,_,_=>none
 | f+1,i::is,listed,taken=>match ops[i]? with
  | some o=>match neutral P o&&NS ops listed i with
   | true=>match aBO ops listed i&&GE ops o&&taken.all (leaves ops o)&&(rI P o || jI ops i)with
    | true=>(QF P ops f is (listed.setIfInBounds i true) (i::taken)).map (.take i:: ·)
    | false=>QF P ops f is listed taken
   | false=>QF P ops f is listed taken
  | none=>none
 | f+1,[],listed,taken=>
  let c:=LH P ops ops.size listed []
  let nJ:=c.2.map fun d=>(d,vK P ops c.2 d)
  let BX:=match c.2 with | []=>[] | _=>taken.filter (jI ops)
  match c.2.all fun d=>DY ops d&&(match ops[d]? with | some o=>GE ops o&&(taken.filter fun p=> !dep ops d p).all (leaves ops o) | none=>false)with
  | true=>match Region.ready .any ops c.1 with
   | []=>some [.fin BX nJ (c.2.filter fun i=> !IW P ops i)]
   | [r]=>match ops[r]? with
    | some o=>
     let D:=vK P ops c.2 r
     let rK:=taken.filter fun p=> !dep ops r p&&D.all fun d=> !dep ops d p
     match rK.all (leaves ops o)&& !lP P ops r with
     | true=>(QF P ops f (List.range ops.size) ((D.foldl (fun t i=>t.setIfInBounds i true) listed).setIfInBounds r true) rK).map (.Vy BX nJ D r (rK.filter (jI ops)):: ·)
     | false=>none
    | none=>none
   | _=>none
  | false=>none
def Kq (P:Program) (ops:Array Oper):Nat->List Nat->Array Bool->List Nat->Option (List zJ)
 | 0,_,_,_=>none
 | f+1,i::is,listed,taken=>match ops[i]? with
  | some o=>match neutral P o&&NS ops listed i with
   | true=>match aBO ops listed i&&GE ops o&&taken.all (leaves ops o)&&(rI P o || jI ops i)with
    | true=>Iq (listed.setIfInBounds i true) fun t=>(Kq P ops f is t (i::taken)).map (.take i:: ·)
    | false=>Kq P ops f is listed taken
   | false=>Kq P ops f is listed taken
  | none=>none
 | f+1,[],listed,taken=>
  Ir P ops (List.range ops.size) listed [] fun c1 c2=>
  let nJ:=c2.map fun d=>(d,vK P ops c2 d)
  let BX:=match c2 with | []=>[] | _=>taken.filter (jI ops)
  match c2.all fun d=>DY ops d&&(match ops[d]? with | some o=>GE ops o&&(taken.filter fun p=> !dep ops d p).all (leaves ops o) | none=>false)with
  | true=>match Region.ready .any ops c1 with
   | []=>some [.fin BX nJ (c2.filter fun i=> !IW P ops i)]
   | [r]=>match ops[r]? with
    | some o=>
     let D:=vK P ops c2 r
     let rK:=taken.filter fun p=> !dep ops r p&&D.all fun d=> !dep ops d p
     match rK.all (leaves ops o)&& !lP P ops r with
     | true=>Iq ((D.foldl (fun t i=>t.setIfInBounds i true) listed).setIfInBounds r true) fun t=>(Kq P ops f (List.range ops.size) t rK).map (.Vy BX nJ D r (rK.filter (jI ops)):: ·)
     | false=>none
    | none=>none
   | _=>none
  | false=>none
theorem aIG (P:Program) (ops:Array Oper):∀(f:Nat) (is:List Nat) (listed:Array Bool) (taken:List Nat),Kq P ops f is listed taken=QF P ops f is listed taken:=by
 intro f;induction f with
 | zero=>intro _ _ _;rfl
 | succ f ih=>
  intro is listed taken;cases is with
  | nil=>unfold Kq QF;simp only [QE,Wc,ih];rfl
  | cons i is=>unfold Kq QF;simp only [QE,ih]
def Fd (P:Program) (ops:Array Oper):Option (List zJ):=match LE ops with | true=>Kq P ops ((ops.size+1)*(ops.size+2)) (List.range ops.size) ⟨List.replicate ops.size false⟩ [] | false=>none
section
variable{E:Env}{w0:World}{ops:Array Oper}
theorem aBP (hc:lG E.P w0 E.call) (hr:oG E.P w0 E.round) (xN:Plain ops){ro:Option Nat}{Q:Exit->Act->World->Prop} (hQp:∀c a w,¬Q (.panic c) a w){k:bA->St->Bool}{U0:Rn}{wa:World} (Hq:w0.heap.size<=wa.heap.size)
 (hQ:∀a' w',Next E.P w0 U0 wa k a' w'->Q .normal a' w'):∀(f:Nat) (is:List Nat) (L:Array Bool) (taken:List Nat) (steps:List zJ),QF E.P ops f is L taken=some steps->
 ∀{m:Nat} {L':Array Bool} {X:List (Nat×Option Nat)} {J:List (Nat×Value)} {U:Rn} {A:bA} {a:Act} {S:St} {w:World},mO E ops steps A S k=true->Inv E w0 ops U0 wa L taken m L' X J U A a S w->DV ro E.P ops Q m J L' a w:=by
 intro f;induction f with
 | zero=>intro is L taken steps hp;cases hp
 | succ f ih=>
  intro is L taken steps hp m L' X J U A a S w hk h;cases is with
  | cons i is=>
   unfold QF at hp;split at hp
   ·rename_i o ho
    split at hp
    ·rename_i Cv
     rw [dR]at Cv;obtain⟨Cv,hrd⟩:=Cv;have LI:=XA.1 hrd;split at hp
     ·rename_i Ze
      simp only [dR]at Ze;obtain⟨⟨⟨JH,NP⟩,rJ⟩,EA⟩:=Ze;cases yB:QF E.P ops f is (L.setIfInBounds i true) (i::taken)with
      | none=>rw [yB]at hp;cases hp
      | some rest=>
       rw [yB]at hp;injection hp with hp;subst hp;unfold mO at hk;rw [bU]at hk;simp only [ho]at hk;exact Inv.aBE hQp xN Hq ho LI Cv (Qh JH) NP rJ EA (rest:=fun A S=>mO E ops rest A S k) hk (fun xE h'=>ih _ _ _ _ yB xE h') h
     ·exact ih _ _ _ _ hp hk h
    ·exact ih _ _ _ _ hp hk h
   ·cases hp
  | nil=>
   unfold QF at hp;generalize Du:LH E.P ops ops.size L []=c at hp;simp only at hp;split at hp
   ·rename_i LJ
    split at hp
    ·rename_i tW
     injection hp with hp;subst hp;unfold mO at hk;rw [bU]at hk;simp only at hk;obtain⟨QD,hk⟩:=Zg h.hs Du LJ hk;exact Inv.aFf xN Hq QD tW hk hQ m h
    ·rename_i r tW
     split at hp
     ·rename_i o ho
      split at hp
      ·rename_i rJ
       simp only [dR,IR]at rJ;obtain⟨rJ,Ye⟩:=rJ;generalize yB:QF E.P ops f _ _ _=rest at hp;cases rest with
       | none=>cases hp
       | some rest=>
        injection hp with hp;subst hp;unfold mO at hk;rw [bU]at hk;simp only [ho]at hk;obtain⟨QD,hk⟩:=Zg h.hs Du LJ hk;exact Inv.aFe hc hr xN Hq QD ho tW Ye rfl rfl rJ (rest:=fun A S=>mO E ops rest A S k) hk (fun xE h'=>ih _ _ _ _ yB xE h') m h
      ·cases hp
     ·cases hp
    ·cases hp
   ·cases hp
def Km (E:Env) (ops:Array Oper) (A:bA) (S:St) (k:bA->St->Bool):Bool:=
 match Fd E.P ops with
 | some l=>WZ ops (QC l) A fun A=>mO E ops l A S k
 | none=>false
theorem aIz (hc:lG E.P w0 E.call) (hr:oG E.P w0 E.round) (hm:E.P.follows .mixedOrders=true):aGI E w0 (Km E):=by
 intro ops A S k U a w ro id Q hk hs hQ;unfold Km at hk;split at hk
 ·rename_i l hl
  unfold Fd at hl;split at hl
  ·rename_i aDD
   rw [aIG]at hl;have hl:QF E.P ops ((ops.size+1)*(ops.size+2)) (List.range ops.size) (Array.replicate ops.size false) []=some l:=hl;have xN:=Ar aDD;obtain⟨A',hk,hA',hmk⟩:=Pz hs.act hk
   let Q0:Exit->Act->World->Prop:=fun e a' w'=>e= .normal/\Next E.P w0 U w k a' w'
   have xP:∀j,¬On (Array.replicate ops.size false) j:=fun j h=>by
    unfold On at h;rcases BO j ops.size with h' | h'
    ·simp [h']at h
    ·simp [h']at h
   have aOI:rem (Array.replicate ops.size false)<=ops.size:=by
    unfold rem;refine zR (List.countP_le_length) ?_;simp
   have h:=aBP hc hr xN (ro:=ro) (Q:=Q0) (fun c a w h=>by cases h.1) (U0:=U) (wa:=w) hs.rel.base.size (fun a' w' h=>⟨rfl,h⟩) _ _ _ _ l hl (m:=ops.size) (X:=[]) (J:=[]) hk
    ⟨⟨hA',hs.rel.drew,by rw [hmk];exact hs.marks⟩,xZ.drew U w,Array.size_replicate,Array.size_replicate,fun j=>by simp,fun j h=>aX h (xP j),by simp,by simp,by simp,by simp,by simp,fun j h=>aX h (xP j),by simp,aOI,trivial,by simp⟩
   exact wpIn_mono (wpIn_region_any hm h.any) fun e a' w' hq=>by obtain⟨rfl,hn⟩:=hq;exact hQ a' w' hn
  ·cases hl
 ·cases hk
end
def aLX (P:Program) (ops:Array Oper) (i:Nat) (o:Oper):OpW:=match fD P ops i with
 | none=>opW P o
 | some j=>match ops[j]? with
  | some q=>⟨fun E A S K=>(opW P q).f E A S fun s S'=>match s with
   | .slice (some ⟨b,0,none⟩) _ _=>match Nat.beq b S.n with
    | true=>mV A q.dst s fun A'=>(opW P o).f E A' S' fun v _=>match v with
     | .string _=>K v S
     | _=>false
    | false=>false
   | _=>false⟩
  | none=>⟨fun _ _ _ _=>false⟩
theorem aFg (E:Env) (ops:Array Oper) (i:Nat) (o:Oper) (A:bA) (S:St) (K:VK):(aLX E.P ops i o).f E A S K=IX E ops i o A S K:=by
 unfold aLX IX;cases fD E.P ops i with
 | none=>exact GF E o A S K
 | some j=>
  simp only;cases ops[j]? with
  | none=>rfl
  | some q=>simp only [GF]<;>rfl
def aBH (P:Program) (ops:Array Oper) (l:List Nat):Ps:=
 iD (β:=Ps) ⟨fun _ A S k=>k A S⟩ (fun i _ ih=>match ops[i]? with
  | some o=>⟨fun E A S k=>(aLX P ops i o).f E A S fun v S=>aOx o.dst v A fun A=>ih.f E A S k⟩
  | none=>⟨fun _ _ _ _=>false⟩) l
theorem aFh (d:Option Tmp) (v:Value) (A:bA) (k:bA->Bool):aOx d v A k=mV A d v k:=by cases d<;>rfl
theorem Qa (E:Env) (ops:Array Oper):∀(l:List Nat) (A:bA) (S:St) (k:KS),(aBH E.P ops l).f E A S k=oH E ops l A S k:=by
 intro l;induction l with
 | nil=>intro A S k;rfl
 | cons i l ih=>
  intro A S k;unfold aBH oH at ih ⊢;rw [bU,bU];cases ops[i]? with
  | none=>rfl
  | some o=>
   simp only [aFg,aFh]
   congr 1
   funext v S
   congr 1
   funext A
   exact ih A S k
def aLY (P:Program) (ops:Array Oper) (l:List (Nat×List Nat)):ChW:=
 iD (β:=ChW) ⟨fun _ _ _ k=>k⟩ (fun p _ ih=>match ops[p.1]? with
  | some o=>⟨fun E A S k=>aDu A o (gE ((aBH P ops p.2).f E A S fun A S=>(aLX P ops p.1 o).f E A S fun _ _=>true) (ih.f E A S k) false)⟩
  | none=>⟨fun _ _ _ _=>false⟩) l
theorem aFi (E:Env) (ops:Array Oper) (A:bA) (S:St) (k:Bool):∀(l:List (Nat×List Nat)),(aLY E.P ops l).f E A S k=VG E ops A S l k:=by
 intro l;induction l with
 | nil=>rfl
 | cons p l ih=>
  unfold aLY VG at ih ⊢;rw [bU,bU];cases ops[p.1]? with
  | none=>rfl
  | some o=>simp only [Qa,aFg,ih]
def Nb (P:Program) (ops:Array Oper) (l:List zJ):Ps:=
 iD (β:=Ps) ⟨fun _ _ _ _=>false⟩ (fun s _ ih=>match s with
  | .take i=>match ops[i]? with
   | some o=>⟨fun E A S k=>(doW P ops o).f E A S fun A S=>ih.f E A S k⟩
   | none=>⟨fun _ _ _ _=>false⟩
  | .Vy BX nJ D r GH=>match ops[r]? with
   | some o=>⟨fun E A S k=>(aDt P ops BX).f E A S ((aLY P ops nJ).f E A S ((aBH P ops D).f E A S fun A S=>(doW P ops o).f E A S fun A S=>(aDt P ops GH).f E A S (ih.f E A S k)))⟩
   | none=>⟨fun _ _ _ _=>false⟩
  | .fin BX nJ D=>⟨fun E A S k=>(aDt P ops BX).f E A S ((aLY P ops nJ).f E A S ((aBH P ops D).f E A S k))⟩) l
theorem Qb (E:Env) (ops:Array Oper):∀(l:List zJ) (A:bA) (S:St) (k:KS),(Nb E.P ops l).f E A S k=mO E ops l A S k:=by
 intro l;induction l with
 | nil=>intro A S k;rfl
 | cons s l ih=>
  intro A S k;unfold Nb mO at ih ⊢;rw [bU,bU];cases s with
  | take i=>
   simp only;cases ops[i]? with
   | none=>rfl
   | some o=>simp only [aDs,ih]
  | Vy BX nJ D r GH=>
   simp only;cases ops[r]? with
   | none=>rfl
   | some o=>simp only [aDs,aE8,aFi,Qa,ih]
  | fin BX nJ D=>simp only [aE8,aFi,Qa]
def aLZ (P:Program) (ops:Array Oper) (draw:Bool):Ps:=
 match draw with
 | true=>match Fd P ops with
  | some l=>match QC l with
   | []=>Nb P ops l
   | ls=>⟨fun E A S k=>WZ ops ls A fun A=>(Nb P ops l).f E A S k⟩
  | none=>⟨fun _ _ _ _=>false⟩
 | false=>aOy P ops ops.toList
theorem aL0 (E:Env) (ops:Array Oper) (draw:Bool) (A:bA) (S:St) (k:KS):(aLZ E.P ops draw).f E A S k=gE draw (Km E ops A S k) (ZT E ops ops.toList A S k):=by
 cases draw with
 | true=>
  unfold aLZ Km gE;simp only;cases Fd E.P ops with
  | none=>rfl
  | some l=>
   simp only;cases h:QC l with
   | nil=>exact Qb E ops l A S k
   | cons d ls=>simp only [Qb]
 | false=>exact aLU E ops _ A S k
def XB (P:Program) (c:Code):CdW:=
 aQk (β:=CdW)
  ⟨fun _ _ A S K=>K .normal A S⟩
  (fun ops draw=>⟨fun E _ A S K=>(aLZ P ops draw).f E A S fun A S=>K .normal A S⟩)
  (fun ha hb=>⟨fun E r A S K=>ha.f E r A S fun e A S=>match e with | .normal=>hb.f E r A S K | e=>K e A S⟩)
  (fun c ha hb=>⟨fun E r A S K=>(AY c).f A fun v=>match v with | .bool b=>gE b (ha.f E r A S K) (hb.f E r A S K) | _=>false⟩)
  (fun id h=>⟨fun E r A S K=>h.f E r A S fun e A S=>match e with
   | .exit i=>match Nat.beq i id with | true=>K .normal A S | false=>K (.exit i) A S
   | e=>K e A S⟩)
  (fun h=>⟨fun E r A S K=>aE1 (h.f E r) E.most A S K⟩)
  (fun h=>h)
  (fun f params assign body=>⟨fun E r A S K=>Cm E r f params assign body A S K⟩)
  (fun id=>⟨fun _ _ A S K=>K (.exit id) A S⟩)
  ⟨fun _ _ A S K=>K .normal A S⟩
  ⟨fun _ _ A S K=>K .ret A S⟩
  ⟨fun _ _ _ _ _=>false⟩ c
theorem aBI (E:Env) (r:Option Nat):∀(c:Code) (A:bA) (S:St) (K:Cl),(XB E.P c).f E r A S K=xY E (Km E) r c A S K:=by
 intro c;induction c with
 | skip=>intro A S K;rfl
 | region id ops draw=>
  intro A S K;show(aLZ E.P ops draw).f E A S (fun A S=>K .normal A S)=gE draw (Km E ops A S fun A S=>K .normal A S) (ZT E ops ops.toList A S fun A S=>K .normal A S);exact aL0 E ops draw A S _
 | seq a b iha ihb=>
  intro A S K;show(XB E.P a).f E r A S (fun e A S=>match e with | .normal=>(XB E.P b).f E r A S K | e=>K e A S)=xY E (Km E) r a A S fun e A S=>match e with | .normal=>xY E (Km E) r b A S K | e=>K e A S
  rw [iha]
  congr 1
  funext e A S
  cases e with
  | normal=>exact ihb A S K
  | _=>rfl
 | cond c a b iha ihb=>
  intro A S K;show(AY c).f A (fun v=>match v with | .bool b'=>gE b' ((XB E.P a).f E r A S K) ((XB E.P b).f E r A S K) | _=>false)=wA A c fun v=>match v with | .bool b'=>gE b' (xY E (Km E) r a A S K) (xY E (Km E) r b A S K) | _=>false
  rw [lH,iha,ihb]
 | block id a ih=>
  intro A S K
  show(XB E.P a).f E r A S (fun e A S=>match e with
   | .exit i=>match Nat.beq i id with | true=>K .normal A S | false=>K (.exit i) A S
   | e=>K e A S)=_
  rw [ih];rfl
 | loop a ih=>
  intro A S K;show aE1 ((XB E.P a).f E r) E.most A S K=aE1 (xY E (Km E) r a) E.most A S K;have:(XB E.P a).f E r=xY E (Km E) r a:=by funext A S K;exact ih A S K
  rw [this]
 | scope a ih=>intro A S K;exact ih A S K
 | _=>intros;rfl
def fnL (P:Program) (f:FuncId):FnW:=
 match P.funcs[f]? with
 | some fn=>match fn.body with
  | some c=>⟨fun E args S K=>bV fn.ntmps fun n=>aEY n args fun ts=>(XB P c).f E none ⟨ts,[],P.globals.size⟩ S fun e A S=>
   match e with
   | .exit _=>false
   | _=>PA A.marks S fun S=>tV P fn.results.toList A S fun vs=>match vs with | [v]=>K v S | vs=>K (.tuple ⟨vs⟩) S⟩
  | none=>⟨fun _ _ _ _=>false⟩
 | none=>⟨fun _ _ _ _=>false⟩
theorem aOD (E:Env) (f:FuncId) (args:List Value) (S:St) (K:VK):(fnL E.P f).f E args S K=Cn E (Km E) f args S K:=by
 unfold fnL Cn;cases E.P.funcs[f]? with
 | none=>rfl
 | some fn=>
  simp only;cases fn.body with
  | none=>rfl
  | some c=>simp only [aBI]<;>rfl
def Qc (P:Program) (E:Env) (l:Nat) (args:List Value) (S:St) (K:VK):Bool:=
 rV S.h l fun o=>match o with
  | .loop tmps params assign body _ _=>
   let laid:List Tmp->List Value->Tm->(Tm->Bool)->Bool:=fun ps=>iD (β:=List Value->Tm->(Tm->Bool)->Bool)
    (fun as ts k=>match as with | []=>k ts | _=>false) (fun p _ ih as ts k=>match as with | a::as=>uU a ts p fun ts=>ih as ts k | []=>false) ps
   laid params args tmps fun ts=>(XB P assign).f E (some l) ⟨ts,[],P.globals.size⟩ S fun e A S=>match e with
    | .normal=>rV S.h l fun o=>match o with
     | .loop tm ps as bo .ready pe=>tK S l (.loop tm ps as bo .busy pe) fun S=>(XB P body).f E (some l) A S fun e _ S=>
      rV S.h l fun o=>match o with
       | .loop tm ps as bo _ _=>match e with
        | .normal=>tK S l (.loop tm ps as bo .ready none) fun S=>K (.bool true) S
        | .ret=>tK S l (.loop tm ps as bo .done (some .ret)) fun S=>K (.bool false) S
        | .exit id=>tK S l (.loop tm ps as bo .done (some (.exit id))) fun S=>K (.bool false) S
       | _=>false
     | _=>false
    | _=>false
  | _=>false
theorem aGY (E:Env) (l:Nat) (args:List Value) (S:St) (K:VK):Qc E.P E l args S K=Ie E (Km E) l args S K:=by
 unfold Qc Ie;simp only [aBI]<;>rfl
def aIy (P:Program) (ov:FuncId->Option (List Value->St->VK->Bool)) (most:Nat) (n:Nat):Env:=
 NA (β:=Env) {P,ov,call:=fun _ _ _ _=>false,round:=fun _ _ _ _=>false,most}
  (fun _ E=>{P,ov,call:=fun f args S K=>match ov f with | some g=>g args S K | none=>(fnL P f).f E args S K,round:=fun l args S K=>Qc P E l args S K,most}) n
theorem aL1 (P:Program) (ov:FuncId->Option (List Value->St->VK->Bool)) (most:Nat):∀n,aIy P ov most n=env P ov Km most n:=by
 intro n;induction n with
 | zero=>rfl
 | succ n ih=>
  have hP:=aNE P ov Km most n
  have h1:∀f args S K,(fnL P f).f (env P ov Km most n) args S K=Cn (env P ov Km most n) (Km (env P ov Km most n)) f args S K:=by
   intro f args S K;rw [<-aOD,hP]
  have h2:∀l args S K,Qc P (env P ov Km most n) l args S K=Ie (env P ov Km most n) (Km (env P ov Km most n)) l args S K:=by
   intro l args S K;rw [<-aGY,hP]
  show({P,ov,call:=fun f args S K=>match ov f with | some g=>g args S K | none=>(fnL P f).f (aIy P ov most n) args S K,round:=fun l args S K=>Qc P (aIy P ov most n) l args S K,most}:Env)=_;rw [ih];simp only [h1,h2];rfl
theorem aDw{P:Program}{ov:FuncId->Option (List Value->St->VK->Bool)}{most n:Nat}{w0:World} (hov:Ep P w0 ov) (LD:∀(f:FuncId) (fn:Func),P.funcs[f]? =some fn->fn.name≠ "runtime.NumGoroutine") (hm:P.follows .mixedOrders=true):
 lG P w0 (aIy P ov most n).call:=by
 rw [aL1];exact(aGJ (w0:=w0) (ov:=ov) (dr:=Km) (most:=most) hov LD (fun E hE hc hr=>aIz (by rw [hE];exact hc) (by rw [hE];exact hr) (by rw [hE];exact hm)) n).1
section
variable{P:Program}{w0:World}{U:Rn}{S:St}{w w':World}
theorem aD5 (hw:Below w0.heap.size w0 w) (hb:Below w.heap.size w w'):Below w0.heap.size w0 w':=hw.trans (hb.mono hw.size)
theorem Rel.below (h:Rel P w0 U S w) (hb:Below w.heap.size w w'):Rel P w0 U S w'/\xZ U w U w':=
 ⟨⟨h.Pe,fun i o hi=>(h.PB i o hi).frame (.refl U) fun L hL=>hb.block _ (h.loc i L hL),h.dom,h.lt,fun i L hi=>DJ (h.loc i L hi) hb.size,h.sep,h.old,aD5 h.base hb⟩,
   .refl U,⟨hb.size,fun c hc _=>hb.block c hc⟩,fun _ _ h=> .inl h⟩
end
structure Qd where
 g:Nat
 vs:List Value
 e:TypeId
 m:Nat
def Rn.laid (n:Nat) (l:List Qd):Rn:=fun i=>if i<n then some ⟨i,0,0,match l.find? (fun x=>x.g==i)with | some x=>x.m | none=>0⟩else none
def St.laid (n:Nat) (l:List Qd):St:=⟨l.foldr (fun x h=>h.put x.g (.cells x.vs x.e .ro)) .leaf,n⟩
def GOk (P:Program) (l:List Qd):Prop:=(l.map (·.g)).Nodup/\∀x∈l,x.g<P.globals.size/\cQ P x.e=some x.m/\∀v∈x.vs,bW v=true
def Laid (l:List Qd) (w:World):Prop:=∀x∈l,∃cs t fz,w.heap[x.g]? =some (.cells cs t fz)/\∀(j:Nat) (v:Value),x.vs[j]? =some v->cs[j]? =some v
theorem Laid.below{l:List Qd}{w w':World}{n:Nat} (h:Laid l w) (hb:Below n w w') (hn:∀x∈l,x.g<n):Laid l w':=by
 intro x hx;obtain⟨cs,t,fz,h1,h2⟩:=h x hx;exact⟨cs,t,fz,by rw [hb.block _ (hn x hx)];exact h1,h2⟩
theorem St.Qe{n:Nat}:∀{l:List Qd},(l.map (·.g)).Nodup->∀{i:Nat} {o:jD},(St.laid n l).obj i=some o->∃x∈l,x.g=i/\o= .cells x.vs x.e .ro:=by
 intro l;induction l with
 | nil=>intro _ i o h;cases h
 | cons y l ih=>
  intro hnd i o h;have hnd:=Hx.1 (by simpa using hnd:(y.g::l.map (·.g)).Nodup);have h:((St.laid n l).h.put y.g (.cells y.vs y.e .ro)).get i=some o:=h;rw [AX]at h;split at h
  ·rename_i e
   injection h with h;exact⟨y,.head _,e.symm,h.symm⟩
  ·obtain⟨x,hx,h1,h2⟩:=ih hnd.2 h
   exact⟨x,.tail _ hx,h1,h2⟩
theorem Rel.laid{P:Program}{l:List Qd}{w:World} (hg:GOk P l) (hsz:P.globals.size<=w.heap.size) (h:Laid l w):Rel P w (Rn.laid P.globals.size l) (St.laid P.globals.size l) w:=by
 have hr:∀i L,Rn.laid P.globals.size l i=some L->i<P.globals.size/\L.b=i/\L.s=0:=by
  intro i L h;unfold Rn.laid at h;split at h
  ·rename_i hi;injection h with h;subst h;exact⟨hi,rfl,rfl⟩
  ·cases h
 have Th:∀i,i<P.globals.size->∃L,Rn.laid P.globals.size l i=some L/\L.b=i/\L.s=0:=fun i hi=>⟨_,aK hi,rfl,rfl⟩;refine⟨Th,fun i o ho=>?_,fun i hi=>?_,fun i o ho=>?_,fun i L hi=>?_,fun i j a b L M Tt _ _ _ _ hL hM hb=>?_,fun j vs e olds ho=>?_,⟨rfl,rfl,rfl,bO _,fun _ _=>rfl⟩⟩
 ·obtain⟨x,hx,rfl,rfl⟩:=St.Qe hg.1 ho
  obtain⟨cs,t,fz,h1,h2⟩:=h x hx;obtain⟨hlt,hm,RY⟩:=hg.2 x hx
  have aIb:l.find? (fun y=>y.g==x.g)=some x:=by
   have:∀(l:List Qd),(l.map (·.g)).Nodup->x∈l->l.find? (fun y=>y.g==x.g)=some x:=by
    intro l;induction l with
    | nil=>intro _ h;cases h
    | cons y l ih=>
     intro hnd hx;have hnd:=Hx.1 (by simpa using hnd:(y.g::l.map (·.g)).Nodup);rw [List.find?_cons];rcases cC.1 hx with e | hx
     ·subst e;simp
     ·have:y.g≠x.g:=fun e=>hnd.1 (e▸kS.2 ⟨x,hx,rfl⟩)
      have hb:(y.g==x.g)=false:=by simpa using this
      rw [hb];exact ih hnd.2 hx
   exact this l hg.1 hx
  refine⟨⟨x.g,0,0,x.m⟩,cs,t,fz,by unfold Rn.laid;rw [aK hlt,aIb],h1,fun j v hj=>⟨v,by simpa using h2 j v hj,.flat (RY v (BJ hj))⟩,hm⟩
 ·have:P.globals.size<=i:=hi
  unfold Rn.laid;rw [aG (by omega)]
 ·obtain⟨x,hx,rfl,_⟩:=St.Qe hg.1 ho
  exact(hg.2 x hx).1
 ·obtain⟨h1,h2,_⟩:=hr i L hi
  omega
 ·obtain⟨_,h2,_⟩:=hr i L hL
  obtain⟨_,h4,_⟩:=hr j M hM;omega
 ·obtain⟨x,_,_,h2⟩:=St.Qe hg.1 ho
  injection h2 with _ _ h2;cases h2
def XD (a b:List Value):Bool:=
 iD (β:=List Value->Bool) (fun b=>match b with | []=>true | _=>false) (fun x _ ih b=>match b with | y::b=>(match Kg x y with | true=>ih b | false=>false) | []=>false) a b
theorem lZ.aOE{U:Rn}{l:List Value} (h:∀v∈l,kV v=true):lZ U l l:=
 ⟨rfl,fun k v v' a b=>by rw [a]at b;injection b with b;subst b;exact .kV (h v (BJ a))⟩
theorem Qf{U:Rn}:∀{a b b':List Value},(∀v∈a,kV v=true)->XD a b=true->lZ U b b'->b'=a:=by
 intro a;induction a with
 | nil=>
  intro b b' _ h hv;unfold XD at h;rw [wC]at h;split at h
  ·exact hv.lE
  ·cases h
 | cons x a ih=>
  intro b b' hf h hv;unfold XD at h;rw [bU]at h;split at h
  ·rename_i y t
   obtain⟨y',t',rfl,h1,h2⟩:=hv.dM;split at h
   ·rename_i hxy
    rw [ih (fun v hv=>hf v (.tail _ hv)) h h2,<-NQ hxy (.kV (hf x (.head _))) h1]
   ·cases h
  ·cases h
def NT (tbl:List (List Value×Value)) (args:List Value) (S:St) (K:VK):Bool:=
 iD (β:=Bool) false (fun x _ ih=>gE (XD x.1 args) (K x.2 S) ih) tbl
def answers (r v:Value):Bool:=Kg r v
def ZA (P:Program) (ov:FuncId->Option (List Value->St->VK->Bool)) (most n:Nat) (f:FuncId) (l:List Qd) (x:List Value×Value):Prop:=
 (∀v∈x.1,kV v=true)/\kV x.2=true/\(aIy P ov most n).call f x.1 (St.laid P.globals.size l) (fun v _=>answers x.2 v)=true
theorem Nc{P:Program}{w0:World}{ov:FuncId->Option (List Value->St->VK->Bool)}{most n:Nat}{f:FuncId}{l:List Qd}{tbl:List (List Value×Value)} (hg:GOk P l) (hsz:P.globals.size<=w0.heap.size) (hl:Laid l w0)
 (hov:∀w,P.globals.size<=w.heap.size->Laid l w->Ep P w ov) (LD:∀(f:FuncId) (fn:Func),P.funcs[f]? =some fn->fn.name≠ "runtime.NumGoroutine") (hm:P.follows .mixedOrders=true)
 (hf:∀args w,(callFunc f args).run P w= .ok (.enter f args) w) (ht:∀x∈tbl,ZA P ov most n f l x):
 lG P w0 (fun f' args S K=>match Nat.beq f' f with | true=>NT tbl args S K | false=>false):=by
 intro f' args S K U w eX hk hr ha;dsimp only at hk;split at hk
 ·rename_i hf'
  obtain rfl:f'=f:=by simpa using hf'
  refine⟨hf ⟨eX⟩,?_⟩;have aL2:P.globals.size<=w.heap.size:=zR hsz hr.base.size;have hlw:Laid l w:=hl.below hr.base fun x hx=>DJ (hg.2 x hx).1 hsz;revert hk;induction tbl with
  | nil=>intro hk;cases hk
  | cons x tbl ih=>
   intro hk;unfold NT at hk;rw [bU]at hk;cases hs:XD x.1 args with
   | false=>rw [hs]at hk;exact ih (fun y hy=>ht y (.tail _ hy)) hk
   | true=>
    rw [hs]at hk;have hk:K x.2 S=true:=hk;obtain⟨m1,m2,m3⟩:=ht x (.head _);have TZ:=Qf m1 hs ha;subst TZ;obtain⟨_,UA⟩:=aDw (w0:=w) (hov w aL2 hlw) LD hm f' x.1 _ _ _ w x.1 m3 (Rel.laid hg aL2 hlw) (lZ.aOE m1);refine CallsIn.mono UA ?_
    rintro e w' ⟨v',rfl,U',v,S',hkv,hv,hrel,_⟩
    have PY:x.2=v':=NQ hkv (.kV m2) hv;subst PY;obtain⟨h1,h2⟩:=hr.below hrel.base;exact⟨_,rfl,U,_,S,hk,.kV m2,h1,h2⟩
 ·cases hk
def GI (f:FuncId) (g:List Value->St->VK->Bool) (ov:FuncId->Option (List Value->St->VK->Bool)) (f':FuncId):Option (List Value->St->VK->Bool):=gE (Nat.beq f' f) (some g) (ov f')
theorem wI{P:Program}{w0:World}{f:FuncId}{g:List Value->St->VK->Bool}{ov:FuncId->Option (List Value->St->VK->Bool)} (h:lG P w0 (fun f' args S K=>match Nat.beq f' f with | true=>g args S K | false=>false)) (hov:Ep P w0 ov):Ep P w0 (GI f g ov):=by
 intro f' g' hg;unfold GI at hg;cases hb:Nat.beq f' f with
 | true=>
  rw [hb]at hg;injection hg with hg;subst hg;obtain rfl:f'=f:=by simpa using hb
  exact h
 | false=>rw [hb]at hg;exact hov f' g' hg
section
variable{E:Env}{w0:World}
end
def rIf (c:Value) (a b:Bool):Bool:=match c with | .bool v=>gE v a b | _=>false
def aNJ (c a b:Value) (K:Value->Bool):Bool:=match c with
 | .bool true=>K a
 | .bool false=>K b
 | _=>false
def rLd (a:Value) (S:St) (K:VK):Bool:=match a with
 | .pointer (some ⟨i,o,none⟩)=>DM S i fun vs _ _=>ZS vs o fun v=>K v S
 | _=>false
def aIK (n:Nat) (a:Value) (S:St) (K:VK):Bool:=match a with
 | .pointer (some ⟨i,o,none⟩)=>PS S i o n fun l=>K (.agg ⟨l⟩) S
 | _=>false
def rSt (n:Nat) (a x:Value) (S:St) (k:St->Bool):Bool:=match a with
 | .pointer (some ⟨i,o,none⟩)=>pX x fun cs=>KW cs fun m=>match Nat.beq m n with
  | true=>vH S i o cs k
  | false=>false
 | _=>false
def Iv (zero:List Value) (t:TypeId) (S:St) (K:VK):Bool:=aLH zero fun zero=>zT S (.cells zero t .exact) fun i S=>K (.pointer (some ⟨i,0,none⟩)) S
def XJ (parts:List (Nat×Nat×Value)) (cells:List Value) (k:List Value->Bool):Bool:=
 iD (β:=List Value->Bool) (fun cs=>k cs) (fun p _ ih cs=>pX p.2.2 fun new=>KW new fun m=>match Nat.beq m p.2.1 with
  | true=>tP p.1 new cs ih
  | false=>false) parts cells
def aDK (zero:List Value) (parts:List (Nat×Nat×Value)) (K:Value->Bool):Bool:=XJ parts zero fun cs=>K (.agg ⟨cs⟩)
def Zt (elem:TypeId) (n:Nat) (zero:List Value) (parts:List (Nat×Nat×Value)) (S:St) (K:VK):Bool:=
 aA3 zero n fun cs=>XJ parts cs fun cs=>zT S (.cells cs elem .exact) fun i S=>K (.slice (some ⟨i,0,none⟩) n n) S
def aIL (off:Nat) (x:Value) (K:Value->Bool):Bool:=match x with
 | .pointer (some ⟨b,o,none⟩)=>bV (o+off) fun o=>K (.pointer (some ⟨b,o,none⟩))
 | _=>false
def Ql (off:Nat) (x:Value) (K:Value->Bool):Bool:=match x with
 | .agg cs=>ZS cs.toList off K
 | _=>false
def Fi (off n:Nat) (x:Value) (K:Value->Bool):Bool:=match x with
 | .agg cs=>NG off cs.toList fun l=>WB n l fun l=>K (.agg ⟨l⟩)
 | _=>false
def aL8 (size:Nat) (x ix:Value) (K:Value->Bool):Bool:=match ix with
 | .int _ (.ofNat i)=>match x with
  | .slice (some ⟨b,o,sp⟩) len _=>match sp with
   | some (_+1)=>false
   | _=>match Nat.blt i len with
    | true=>bV (o+i*size) fun o=>K (.pointer (some ⟨b,o,none⟩))
    | false=>false
  | _=>false
 | _=>false
def Zo (x ix:Value) (K:Value->Bool):Bool:=match ix with
 | .int _ (.ofNat i)=>match x with
  | .string s=>ZS s.data.toList i fun b=>bV b.toNat fun n=>K (.int .u8 (.ofNat n))
  | _=>false
 | _=>false
def aIS (i:Nat) (x:Value) (K:Value->Bool):Bool:=match x with
 | .tuple vs=>ZS vs.toList i fun v=>K v
 | _=>false
def aIR (k:IntKind) (x:Value) (K:Value->Bool):Bool:=match x with
 | .int _ n=>OY k n fun v=>K v
 | _=>false
def aFj (x:Value) (K:Value->Bool):Bool:=match x with
 | .slice _ n _=>K (.int .i64 (.ofNat n))
 | _=>false
def aBT (x:Value) (K:Value->Bool):Bool:=match x with
 | .string s=>KW s.data.toList fun n=>K (.int .i64 (.ofNat n))
 | _=>false
def aDI (P:Program) (elem:TypeId) (size bytes:Nat) (s x:Value) (S:St) (K:VK):Bool:=match s with
 | .slice base sLen sCap=>TT x fun n=>match n with
  | 0=>match Nat.ble sLen sCap with | true=>K (.slice base sLen sCap) S | false=>false
  | n'+1=>OZ S size (n'+1) x fun new=>bV (sLen+(n'+1)) fun uQ=>
   match Dy uQ bytes with
   | true=>match Nat.ble uQ sCap with
    | true=>Id size new base sLen sCap uQ S K
    | false=>Ea P elem size new base sLen uQ S K
   | false=>false
 | _=>false
def aMa (P:Program) (v:Value) (K:Value->Bool):Bool:=match v with
 | .pointer (some a)=>K (.pointer (some a))
 | .func (.func f) a b=>K (.func (.func f) a b)
 | .func (.yield f) a b=>K (.func (.yield f) a b)
 | .func (.method s) ⟨[.iface t w]⟩ ⟨[]⟩=>match KX P t s with
  | some _=>K (.func (.method s) ⟨[.iface t w]⟩ ⟨[]⟩)
  | none=>false
 | .iface t w=>K (.iface t w)
 | _=>false
def aOL (call:aEZ) (round:Nat->List Value->St->VK->Bool) (f:Value) (args:List Value) (S:St) (K:VK):Bool:=match f with
 | .func (.func g) first captured=>FV first.toList args fun l=>FV l captured.toList fun l=>call g l S K
 | .func (.yield l) first captured=>match first.toList,captured.toList with
  | [],[]=>round l args S K
  | _,_=>false
 | _=>false
def aSK (P:Program) (call:aEZ) (r:Value) (m:String) (args:List Value) (S:St) (K:VK):Bool:=match r with
 | .iface t v=>match KX P t m with
  | some g=>call g (v::args) S K
  | none=>false
 | _=>false
def Ku (w:Bool) (v:Value) (k:Bool->Bool):Bool:=match v with
 | .bool b=>match b,w with | true,true | false,false=>k true | _,_=>k false
 | _=>k false
def Wh (v u:Value) (k:Bool):Bool:=match UB v u with | true=>k | false=>false
def aFk (P:Program) (as:TypeId) (ok:Bool) (v:Value) (K:Value->Bool):Bool:=match v,P.underlying as with
 | .iface _ _,some (.interface _)=>false
 | .iface t w,some _=>match Nat.beq t as,ok with
  | true,true=>K (.tuple ⟨[w,.bool true]⟩)
  | true,false=>K w
  | false,_=>false
 | _,_=>false
end Go.Am
namespace Go.Am
open Go.RowKit Go.MapKept
def Zp (w:Bool) (v:Value) (op:VK->Bool) (S:St) (k:VK):Bool:=Ku w v fun b=>gE b (op k) (k undef S)
def shut (most:Nat) (b:Bool):Bool:=Nat.rec (motive:=fun _=>Bool->Bool) (fun x=>x) (fun _ _ x=>x) most b
theorem Nh (most:Nat) (b:Bool):shut most b=b:=by cases most<;>rfl
def aQR (u:Value) (k:Bool):Bool:=match u with | .tuple ⟨[]⟩=>k | _=>false
def Zq (w:Bool) (v u:Value) (op:Bool->Bool) (k:Bool):Bool:=Ku w v fun b=>gE b (op k) (aQR u k)
end Go.Am
namespace Go.Am
def aIQ (P:Program) (op:BinOp) (t:TypeId) (a b:Value) (K:Value->Bool):Bool:=(aLT P op).f t a b K
theorem SU (P:Program) (op:BinOp) (t:TypeId) (a b:Value) (K:Value->Bool):aIQ P op t a b K=Ci P op t a b K:=aE6 P op t a b K
def NU (g:Nat) (b:Bool) (o:Oper):Oper:=match o.guard with
 | some (j,w)=>match Nat.beq j g&&(w==b)with | true=>{o with guard:=none} | false=>o
 | none=>o
def fB (ops:Array Oper) (g:Nat) (b:Bool):Array Oper:=⟨ops.toList.map (NU g b)⟩
theorem CO (g:Nat) (b:Bool) (o:Oper):NU g b o=o\/(NU g b o={o with guard:=none}/\o.guard=some (g,b)):=by
 unfold NU;split
 ·rename_i j w hg
  split
  ·rename_i h
   simp only [dR,beq_iff_eq]at h;have h1:=dI h.1;exact .inr ⟨rfl,by rw [hg,h1,h.2]⟩
  ·exact .inl rfl
 ·exact .inl rfl
theorem We (g:Nat) (b:Bool) (o:Oper):(NU g b o).dst=o.dst:=by rcases CO g b o with h | ⟨h,_⟩<;>rw [h]
theorem XF (g:Nat) (b:Bool) (o:Oper):(NU g b o).after=o.after:=by rcases CO g b o with h | ⟨h,_⟩<;>rw [h]
theorem Qi (g:Nat) (b:Bool) (o:Oper):(NU g b o).op=o.op:=by rcases CO g b o with h | ⟨h,_⟩<;>rw [h]
theorem uX (ops:Array Oper) (g:Nat) (b:Bool) (i:Nat):(fB ops g b)[i]? =ops[i]?.map (NU g b):=by
 unfold fB;simp
theorem PC (ops:Array Oper) (g:Nat) (b:Bool):(fB ops g b).size=ops.size:=by unfold fB;simp
theorem QG (ops:Array Oper) (g:Nat) (b:Bool) (t:Array Value):yielded (fB ops g b) t=yielded ops t:=by
 funext j
 unfold yielded;rw [uX];cases ops[j]? with
 | none=>rfl
 | some o=>simp only [DK,Hw,We]
theorem XG{ops:Array Oper}{g:Nat}{b:Bool}{j e:Nat}:UC (fB ops g b) j e↔UC ops j e:=by
 unfold UC;rw [uX];cases ops[j]? with
 | none=>simp
 | some o=>
  constructor
  ·rintro⟨o',h,x,hx⟩
   injection h with h;subst h;rw [XF]at hx;exact⟨o,rfl,x,hx⟩
  ·rintro⟨o',h,x,hx⟩
   injection h with h;subst h;exact⟨_,rfl,x,by rw [XF];exact hx⟩
theorem LK{ops:Array Oper}{g:Nat}{b:Bool}{t:Array Bool}{j:Nat}:j∈Region.ready .any (fB ops g b) t↔j∈Region.ready .any ops t:=by
 rw [kW,kW,PC];simp only [XG]
theorem Qj{ops:Array Oper}{g:Nat}{b:Bool} (h:Plain ops):Plain (fB ops g b):=by
 intro j o ho;rw [uX]at ho;cases hj:ops[j]? with
 | none=>rw [hj]at ho;cases ho
 | some q=>
  rw [hj]at ho;injection ho with ho;subst ho;rw [Qi];exact h j q hj
section
variable{P:Program}{ops:Array Oper}{ro:Option Nat}{Q:Exit->Act->World->Prop}
theorem aDE{j:Nat}{o:Oper} (hj:ops[j]? =some o){I:Array Value->Prop}{a:Act}{w:World} (hI:∀v,I (a.put o.dst v).tmps){K:Act->World->Prop} (h:wpOpIn (VD ro) 0 P ops Q j K a w):wpOpIn (VD ro) 0 P ops Q j (fun a' w'=>I a'.tmps/\K a' w') a w:=by
 have hd:∀d:Deferred,I (({a with defers:=d::a.defers}:Act).put o.dst undef).tmps:=fun d=>by
  have:=hI undef;unfold Act.put at this ⊢;cases hod:o.dst with
  | none=>rw [hod]at this;exact this
  | some d=>rw [hod]at this;exact this
 unfold wpOpIn at*;simp only [hj]at*;split
 ·rename_i hw
  simp only [hw,if_true]at h;unfold Oper.wpIn at*;refine⟨h.1,?_⟩;have h:=h.2;generalize (o.semAt (VD ro).round a.eval).run P w=r at*;cases r with
  | ok x w'=>
   cases x<;>simp only [Oper.uponIn]at h ⊢
   case value=>exact⟨hI _,h⟩
   case skip=>exact⟨hI undef,h⟩
   case defer=>exact⟨hd _,h⟩
   case enter f args=>
    refine⟨h.1,CallsIn.mono h.2 fun e w'' he=>?_⟩;cases e with
    | returned u=>exact⟨hI u,he⟩
    | panicked c=>exact he
    | outgrown=>exact he
   case row row args=>exact⟨h.1,RowsIn.mono h.2 fun u w'' he=>⟨hI u,he⟩⟩
   case round l f tmps assign body=>
    refine⟨h.1,RoundIn.mono h.2 fun e w'' he=>?_⟩;cases e with
    | returned u=>exact⟨hI u,he⟩
    | panicked c=>exact he
    | outgrown=>exact he
  | halt x w'=>
   cases x<;>simp only [Oper.uponIn]at h ⊢
   case panic u=>exact h
 ·rename_i hw
  simp only [hw]at h;exact⟨h.1,hI undef,h.2⟩
theorem aIH{g:Nat}{b:Bool}{o:Oper}{K:Act->World->Prop}{a:Act}{w:World} (h:(NU g b o).wpIn (VD ro) 0 P a w K Q):o.wpIn (VD ro) 0 P a w K Q:=by
 rcases CO g b o with e | ⟨e,_⟩
 ·rw [e]at h;exact h
 ·rw [e]at h;exact h
theorem aDF{g:Nat}{b:Bool}{j:Nat}{K:Act->World->Prop}{a:Act}{w:World} (hg:yielded ops a.tmps g=some b) (h:wpOpIn (VD ro) 0 P (fB ops g b) Q j K a w):wpOpIn (VD ro) 0 P ops Q j K a w:=by
 unfold wpOpIn at*;rw [uX,QG]at h;cases hj:ops[j]? with
 | none=>rw [hj]at h;exact h
 | some o=>
  rw [hj]at h;simp only [DK]at h ⊢;rcases CO g b o with e | ⟨e,hgd⟩
  ·rw [e]at h;exact h
  ·have h1:Region.wanted (NU g b o) (yielded ops a.tmps)=true:=by rw [e];rfl
   have h2:Region.wanted o (yielded ops a.tmps)=true:=by
    unfold Region.wanted;rw [hgd];simp [hg]
   rw [aK h1]at h;rw [aK h2];exact aIH h
def Wf (ops:Array Oper) (g:Nat) (t:Tmp) (L:Array Bool):Prop:=(∃o,ops[g]? =some o/\o.dst=some t)/\∀j o,ops[j]? =some o->¬On L j->j<L.size->o.dst≠some t
theorem Wf.mono{g:Nat}{t:Tmp}{L:Array Bool}{i:Nat} (h:Wf ops g t L) (hi:i<L.size):Wf ops g t (L.setIfInBounds i true):=⟨h.1,fun j o ho hn hl=>h.2 j o ho (fun c=>hn ((On.set hi).2 (.inl c))) (by simpa using hl)⟩
theorem Yl.res{g i:Nat}{b:Bool}{v:Value}{a:Act}{w:World} (hg:yielded ops a.tmps g=some b):Yl P (fB ops g b) i v a w↔Yl P ops i v a w:=by
 unfold Yl;rw [uX,QG];cases ops[i]? with
 | none=>simp
 | some o=>
  rcases CO g b o with e | ⟨e,hgd⟩
  ·simp only [DK,e]
  ·have h1:Region.wanted (NU g b o) (yielded ops a.tmps)=true:=by rw [e];rfl
   have h2:Region.wanted o (yielded ops a.tmps)=true:=by
    unfold Region.wanted;rw [hgd];simp [hg]
   have h3:execOp a.eval (NU g b o)=execOp a.eval o:=by rw [e];rfl
   constructor
   ·rintro⟨q,hq,h⟩
    simp only [DK]at hq;injection hq with hq;subst hq;rw [h1,h3]at h;exact⟨o,rfl,by rw [h2];exact h⟩
   ·rintro⟨q,hq,h⟩
    injection hq with hq;subst hq;rw [h2]at h;exact⟨_,rfl,by rw [h1,h3];exact h⟩
theorem aL7{g j i:Nat}{b:Bool}:dep (fB ops g b) j i=dep ops j i:=by
 unfold dep;rw [uX];cases ops[j]? with
 | none=>rfl
 | some o=>simp only [DK,XF]
theorem DV.res{g:Nat}{b:Bool}{t:Tmp}:∀{f:Nat} {J:List (Nat×Value)} {L:Array Bool} {a:Act} {w:World},Wf ops g t L->yielded ops a.tmps g=some b->DV ro P (fB ops g b) Q f J L a w->DV ro P ops Q f J L a w:=by
 have hr:∀{L:Array Bool},Region.ready .any (fB ops g b) L=[]↔Region.ready .any ops L=[]:=fun {L}=>by
  rw [List.eq_nil_iff_forall_not_mem,List.eq_nil_iff_forall_not_mem];exact⟨fun h j hj=>h j (LK.2 hj),fun h j hj=>h j (LK.1 hj)⟩
 intro f;induction f with
 | zero=>intro J L a w hs hg h;exact⟨fun p hp=>(Yl.res hg).1 (h.1 p hp),hr.1 h.2.1,h.2.2⟩
 | succ f ih=>
  intro J L a w hs hg h;refine⟨fun p hp=>(Yl.res hg).1 (h.1 p hp),fun e=>h.2.1 (hr.2 e),fun j hj=>?_⟩;have h1:=aDF hg (h.2.2 j (LK.2 hj));obtain⟨⟨hlt,xP⟩,hjs,_⟩:=kW.1 hj;have ho:ops[j]? =some ops[j]:=Hs hjs;have oX:=hs.2 j _ ho xP hlt
  have h2:=aDE (I:=fun t=>yielded ops t g=some b) ho (fun v=>by
   obtain⟨o,hog,hot⟩:=hs.1;unfold yielded at hg ⊢;rw [hog]at hg ⊢;simp only [Hw,hot]at hg ⊢
   have:(a.put ops[j].dst v).tmps[t]? =a.tmps[t]? :=by
    unfold Act.put;cases hd:ops[j].dst with
    | none=>rfl
    | some d=>
     have hdt:d≠t:=fun c=>oX (by rw [hd,c]);simp [aC1 hdt]
   rw [this];exact hg) h1
  refine wpOpIn_mono (fun a' w' hk=>?_) h2;simp only [aL7]at hk;exact ih (hs.mono hlt) hk.1 hk.2
theorem Kn.res{g:Nat}{b:Bool}{a:Act}{w:World}{p:Nat×Value} (hg:yielded ops a.tmps g=some b) (h:Kn P ops a w p):Kn P (fB ops g b) a w p:=by
 have pu:∀o,rI P (NU g b o)=rI P o:=fun o=>by unfold rI;rw [Qi]
 have lo:∀o,DW (NU g b o)=DW o:=fun o=>by unfold DW;rw [Qi]
 rcases h with ⟨o,h1,h2,h3⟩ | ⟨o,d,h1,h2,h3,h4,h5⟩
 ·exact .inl ⟨_,by rw [uX,h1];rfl,by rw [pu];exact h2,fun w=>(Yl.res hg).2 (h3 w)⟩
 ·exact .inr ⟨_,d,by rw [uX,h1];rfl,by rw [lo];exact h2,(Yl.res hg).2 h3,by rw [We];exact h4,h5⟩
end
section
variable{E:Env}{w0:World}{ops:Array Oper}
theorem Inv.cut{U0:Rn}{wa:World}{L:Array Bool}{taken:List Nat}{m:Nat}{L':Array Bool}{X:List (Nat×Option Nat)}{J:List (Nat×Value)}{U:Rn}{A:bA}{a:Act}{S:St}{w:World}{c:Array Bool×List Nat}{g:Nat}{b:Bool}
 (h:Inv E w0 ops U0 wa L taken m L' X J U A a S w) (hc:LH E.P ops ops.size L []=c) (hc2:c.2=[]) (xP:∀i∈Region.ready .any ops c.1,lP E.P ops i=false) (hgb:∀j,On L j->IW E.P (fB ops g b) j=false) (hg:yielded ops a.tmps g=some b):
 Inv E w0 (fB ops g b) U0 wa L taken m L' [] J U A a S w:=by
 obtain⟨mm,h1,h2,h3,h4,h5,h6⟩:=CN _ _ _ hc
 have e2:mm=[]:=by have:c.2=mm:=by rw [h1];rfl
                   rw [<-this];exact hc2
 subst e2
 have hX:X=[]:=by
  cases X with
  | nil=>rfl
  | cons p X=>
   have Th:On c.1 p.1:=aBF h.szL hc xP _ [] h.xr (by simp) (fun i hi=>by
    rw [Oh,kS]at hi;obtain⟨p,hp,rfl⟩:=hi;exact⟨(h.xl p hp).2.1,Fb (h.xl p hp).2.1⟩) p.1 (by rw [Oh,kS];exact⟨p,.head _,rfl⟩)
   rcases(h3 p.1).1 Th with q | q
   ·exact aX q (h.xl p (.head _)).2.2
   ·cases q
 subst hX;exact⟨h.hs,h.RN,by rw [PC];exact h.szL,by rw [PC];exact h.sz,h.on,fun j hj e he=>h.down j hj e (XG.1 he),by simp,by simp,by simp,by simp,by simp,hgb,fun p hp=>⟨(h.jf p hp).1,Kn.res hg (h.jf p hp).2⟩,h.fuel,trivial,by simp⟩
end
abbrev aOJ:=Nat×Bool×Array Bool×List Nat
def At (P:Program) (ops:Array Oper):Nat->List Nat->Array Bool->List Nat->Option (List zJ×Option aOJ)
 | 0,_,_,_=>none
 | f+1,i::is,listed,taken=>match ops[i]? with
  | some o=>match neutral P o&&NS ops listed i with
   | true=>match aBO ops listed i&&GE ops o&&taken.all (leaves ops o)&&(rI P o || jI ops i)with
    | true=>Iq (listed.setIfInBounds i true) fun t=>(At P ops f is t (i::taken)).map fun p=>(.take i::p.1,p.2)
    | false=>At P ops f is listed taken
   | false=>At P ops f is listed taken
  | none=>none
 | f+1,[],listed,taken=>
  Ir P ops (List.range ops.size) listed [] fun c1 c2=>
  let nJ:=c2.map fun d=>(d,vK P ops c2 d)
  let BX:=match c2 with | []=>[] | _=>taken.filter (jI ops)
  match c2.all fun d=>DY ops d&&(match ops[d]? with | some o=>GE ops o&&(taken.filter fun p=> !dep ops d p).all (leaves ops o) | none=>false)with
  | true=>match Region.ready .any ops c1 with
   | []=>some ([.fin BX nJ (c2.filter fun i=> !IW P ops i)],none)
   | [r]=>match ops[r]? with
    | some o=>
     let D:=vK P ops c2 r
     let rK:=taken.filter fun p=> !dep ops r p&&D.all fun d=> !dep ops d p
     match rK.all (leaves ops o)&& !lP P ops r with
     | true=>Iq ((D.foldl (fun t i=>t.setIfInBounds i true) listed).setIfInBounds r true) fun t=>(At P ops f (List.range ops.size) t rK).map fun p=>(.Vy BX nJ D r (rK.filter (jI ops))::p.1,p.2)
     | false=>none
    | none=>none
   | r::_=>match(ops[r]?).bind (·.guard)with
    | some (g,b)=>some ([],some (g,b,listed,taken))
    | none=>none
  | false=>none
def aII (P:Program) (ops:Array Oper) (g:Nat) (t:Tmp) (b:Bool) (L:Array Bool):Bool:=
 (match ops[g]? with | some o=>o.dst==some t | none=>false)&&((List.range ops.size).all (fun j=>L.getD j false || (match ops[j]? with | some o=>o.dst != some t | none=>true))&&((match LH P ops ops.size L []with | (c1,[])=>(Region.ready .any ops c1).all fun i=> !lP P ops i | _=>false)&&(List.range ops.size).all fun j=> !L.getD j false || !IW P (fB ops g b) j))
inductive XH where
 | fin (l:List zJ)
 | cut (l:List zJ) (g:Nat) (t:Tmp) (b:Bool) (r:XH)
def Ff (P:Program):Nat->Array Oper->Array Bool->List Nat->Option XH
 | 0,_,_,_=>none
 | f+1,ops,L,taken=>match At P ops ((ops.size+1)*(ops.size+2)) (List.range ops.size) L taken with
  | some (l,none)=>some (.fin l)
  | some (l,some (g,b,L1,t1))=>match(ops[g]?).bind (·.dst)with
   | some t=>match aII P ops g t b L1 with
    | true=>(Ff P f (fB ops g b) L1 t1).map (.cut l g t b)
    | false=>none
   | none=>none
  | none=>none
def Zl:XH->List Nat
 | .fin l=>QC l
 | .cut l _ _ _ r=>QC l++Zl r
def yT (E:Env) (ops:Array Oper) (l:List zJ) (A:bA) (S:St) (k:bA->St->Bool):Bool:=
 iD (β:=bA->St->Bool) (fun A S=>k A S) (fun s _ ih A S=>match s with
  | .take i=>match ops[i]? with
   | some o=>Ck E ops o A S ih
   | none=>false
  | .Vy BX nJ D r GH=>match ops[r]? with
   | some o=>zU E ops A S BX (VG E ops A S nJ (oH E ops D A S fun A S=>Ck E ops o A S fun A S=>zU E ops A S GH (ih A S)))
   | none=>false
  | .fin _ _ _=>false) l A S
def Fg (A:bA) (t:Tmp) (b:Bool) (k:Bool):Bool:=YU A.tmps t fun v=>match v with
 | .bool b'=>match b,b' with | true,true=>k | false,false=>k | _,_=>false
 | _=>false
def XI (E:Env):XH->Array Oper->bA->St->(bA->St->Bool)->Bool
 | .fin l,ops,A,S,k=>mO E ops l A S k
 | .cut l g t b r,ops,A,S,k=>yT E ops l A S fun A S=>Fg A t b (XI E r (fB ops g b) A S k)
def Kr (E:Env) (ops:Array Oper) (cut:Option aOJ) (steps:List zJ) (A:bA) (S:St) (k kc:bA->St->Bool):Bool:=match cut with | none=>mO E ops steps A S k | some _=>yT E ops steps A S kc
section
variable{E:Env}{w0:World}
theorem Ks (hc:lG E.P w0 E.call) (hr:oG E.P w0 E.round){ops:Array Oper} (xN:Plain ops){ro:Option Nat}{Q:Exit->Act->World->Prop} (hQp:∀c a w,¬Q (.panic c) a w){k:bA->St->Bool}{U0:Rn}{wa:World} (Hq:w0.heap.size<=wa.heap.size)
 (hQ:∀a' w',Next E.P w0 U0 wa k a' w'->Q .normal a' w') {cut:Option aOJ} {kc:bA->St->Bool}
 (aSI:∀g b L1 t1,cut=some (g,b,L1,t1)->∀{m:Nat} {L':Array Bool} {X:List (Nat×Option Nat)} {J:List (Nat×Value)} {U:Rn} {A:bA} {a:Act} {S:St} {w:World},kc A S=true->Inv E w0 ops U0 wa L1 t1 m L' X J U A a S w->DV ro E.P ops Q m J L' a w):
 ∀(f:Nat) (is:List Nat) (L:Array Bool) (taken:List Nat) (steps:List zJ),At E.P ops f is L taken=some (steps,cut)->
 ∀{m:Nat} {L':Array Bool} {X:List (Nat×Option Nat)} {J:List (Nat×Value)} {U:Rn} {A:bA} {a:Act} {S:St} {w:World},Kr E ops cut steps A S k kc=true->Inv E w0 ops U0 wa L taken m L' X J U A a S w->DV ro E.P ops Q m J L' a w:=by
 intro f;induction f with
 | zero=>intro is L taken steps hp;cases hp
 | succ f ih=>
  intro is L taken steps hp m L' X J U A a S w hk h;cases is with
  | cons i is=>
   unfold At at hp;simp only [QE]at hp;split at hp
   ·rename_i o ho
    split at hp
    ·rename_i Cv
     rw [dR]at Cv;obtain⟨Cv,hrd⟩:=Cv;have LI:=XA.1 hrd;split at hp
     ·rename_i Ze
      simp only [dR]at Ze;obtain⟨⟨⟨JH,NP⟩,rJ⟩,EA⟩:=Ze;cases yB:At E.P ops f is (L.setIfInBounds i true) (i::taken)with
      | none=>rw [yB]at hp;cases hp
      | some rest=>
       obtain⟨rest,aIJ⟩:=rest;rw [yB]at hp;simp only [DK]at hp;injection hp with hp;injection hp with hp1 Kt;subst hp1 Kt
       have xE:Ck E ops o A S (fun A S=>Kr E ops aIJ rest A S k kc)=true:=by
        cases aIJ with
        | none=>
         unfold Kr at hk ⊢;simp only at hk ⊢;unfold mO at hk;rw [bU]at hk;simp only [ho]at hk;exact hk
        | some q=>
         unfold Kr at hk ⊢;simp only at hk ⊢;unfold yT at hk;rw [bU]at hk;simp only [ho]at hk;exact hk
       exact Inv.aBE hQp xN Hq ho LI Cv (Qh JH) NP rJ EA xE (fun xE h'=>ih _ _ _ _ yB xE h') h
     ·exact ih _ _ _ _ hp hk h
    ·exact ih _ _ _ _ hp hk h
   ·cases hp
  | nil=>
   unfold At at hp;rw [Wc]at hp;simp only [QE]at hp;generalize Du:LH E.P ops ops.size L []=c at hp;have aSJ:LG E.P ops (List.range ops.size) L []=c:=Du;simp only [aSJ]at hp;split at hp
   ·rename_i LJ
    split at hp
    ·rename_i tW
     injection hp with hp;injection hp with hp1 Kt;subst hp1 Kt;unfold Kr at hk;simp only at hk;unfold mO at hk;rw [bU]at hk;simp only at hk;obtain⟨QD,hk⟩:=Zg h.hs Du LJ hk;exact Inv.aFf xN Hq QD tW hk hQ m h
    ·rename_i r tW
     split at hp
     ·rename_i o ho
      split at hp
      ·rename_i rJ
       simp only [dR,IR]at rJ;obtain⟨rJ,Ye⟩:=rJ;generalize yB:At E.P ops f _ _ _=rest at hp;cases rest with
       | none=>cases hp
       | some rest=>
        obtain⟨rest,aIJ⟩:=rest;simp only [DK]at hp;injection hp with hp;injection hp with hp1 Kt;subst hp1 Kt
        have xE:zU E ops A S (match c.2 with | []=>[] | _=>taken.filter (jI ops)) (VG E ops A S (c.2.map fun d=>(d,vK E.P ops c.2 d)) (oH E ops (vK E.P ops c.2 r) A S fun A S=>Ck E ops o A S fun A S=>zU E ops A S ((taken.filter fun p=> !dep ops r p&&(vK E.P ops c.2 r).all fun d=> !dep ops d p).filter (jI ops)) ((fun A S=>Kr E ops aIJ rest A S k kc) A S)))=true:=by
         cases aIJ with
         | none=>
          unfold Kr at hk ⊢;simp only at hk ⊢;unfold mO at hk;rw [bU]at hk;simp only [ho]at hk;exact hk
         | some q=>
          unfold Kr at hk ⊢;simp only at hk ⊢;unfold yT at hk;rw [bU]at hk;simp only [ho]at hk;exact hk
        obtain⟨QD,hk⟩:=Zg h.hs Du LJ xE;exact Inv.aFe hc hr xN Hq QD ho tW Ye rfl rfl rJ hk (fun xE h'=>ih _ _ _ _ yB xE h') m h
      ·cases hp
     ·cases hp
    ·split at hp
     ·injection hp with hp
      injection hp with hp1 Kt;subst hp1 Kt;exact aSI _ _ _ _ rfl hk h
     ·cases hp
   ·cases hp
theorem aDG{P:Program}{ops:Array Oper}{g:Nat}{t:Tmp}{b:Bool}{L:Array Bool} (h:aII P ops g t b L=true) (hsz:L.size=ops.size):
 Wf ops g t L/\(∃c,LH P ops ops.size L []=c/\c.2=[]/\∀i∈Region.ready .any ops c.1,lP P ops i=false)/\∀j,On L j->IW P (fB ops g b) j=false:=by
 unfold aII at h;simp only [dR]at h;obtain⟨h1,h2,h3,h4⟩:=h;refine⟨⟨?_,fun j o ho hn hl c=>?_⟩,?_,fun j hj=>?_⟩
 ·split at h1
  ·rename_i o ho;exact⟨o,ho,by simpa using h1⟩
  ·cases h1
 ·have:=dL.1 h2 j (FU.2 (by omega))
  rw [ho]at this;simp only [VX,bne_iff_ne,ne_eq]at this;rcases this with q | q
  ·exact hn q
  ·exact q c
 ·split at h3
  ·rename_i c1 Du
   exact⟨_,Du,rfl,fun i hi=>by have:=dL.1 h3 i hi;simpa using this⟩
  ·cases h3
 ·have:=dL.1 h4 j (FU.2 (by have:=hj.lt;omega))
  simp only [VX,IR]at this;rcases this with q | q
  ·have Yn:L.getD j false=true:=hj
   rw [q]at Yn;cases Yn
  ·exact q
theorem aDH{A:bA}{t:Tmp}{b k:Bool} (h:Fg A t b k=true):A.tmps.t.get t=some (.bool b)/\k=true:=by
 unfold Fg at h;obtain⟨x,hx,h⟩:=HU h;split at h
 ·rename_i b'
  cases b<;>cases b'<;>first | exact⟨hx,h⟩ | cases h
 ·cases h
theorem aBQ (hc:lG E.P w0 E.call) (hr:oG E.P w0 E.round){ro:Option Nat}{Q:Exit->Act->World->Prop} (hQp:∀c a w,¬Q (.panic c) a w){k:bA->St->Bool}{U0:Rn}{wa:World} (Hq:w0.heap.size<=wa.heap.size)
 (hQ:∀a' w',Next E.P w0 U0 wa k a' w'->Q .normal a' w'):∀(f:Nat) (ops:Array Oper) (L:Array Bool) (taken:List Nat) (p:XH),Plain ops->Ff E.P f ops L taken=some p->
 ∀{m:Nat} {L':Array Bool} {X:List (Nat×Option Nat)} {J:List (Nat×Value)} {U:Rn} {A:bA} {a:Act} {S:St} {w:World},XI E p ops A S k=true->Inv E w0 ops U0 wa L taken m L' X J U A a S w->DV ro E.P ops Q m J L' a w:=by
 intro f;induction f with
 | zero=>intro ops L taken p _ hp;cases hp
 | succ f ih=>
  intro ops L taken p xN hp m L' X J U A a S w hk h;unfold Ff at hp;split at hp
  ·rename_i l hl
   injection hp with hp;subst hp;exact Ks hc hr xN hQp Hq hQ (kc:=fun _ _=>false) (fun g b L1 t1 e=>by cases e) _ _ _ _ _ hl hk h
  ·rename_i l g b L1 t1 hl
   split at hp
   ·rename_i t ht
    split at hp
    ·rename_i LJ
     cases yB:Ff E.P f (fB ops g b) L1 t1 with
     | none=>rw [yB]at hp;cases hp
     | some r=>
      rw [yB]at hp;injection hp with hp;subst hp;refine Ks hc hr xN hQp Hq hQ (kc:=fun A S=>Fg A t b (XI E r (fB ops g b) A S k)) (fun g' b' L1' t1' e=>?_) _ _ _ _ _ hl hk h;injection e with e;injection e with e1 e;injection e with e2 e;injection e with e3 e4;subst e1 e2 e3 e4;intro m L' X J U A a S w hk h;obtain⟨Ej,hk⟩:=aDH hk;obtain⟨hst,⟨c,Du,hc2,xP⟩,hgb⟩:=aDG LJ h.szL;obtain⟨x',Mx,hv⟩:=h.hs.act.tmps.get Ej;have hx:x'= .bool b:=by cases hv;rfl
      have hy:yielded ops a.tmps g=some b:=by
       obtain⟨o,hog,hot⟩:=hst.1;unfold yielded;rw [hog];simp only [Hw,hot];have:a.tmps[t]? =some x':=by rw [<-Mx];simp
       rw [this,hx]
      have h2:=ih (fB ops g b) L1 t1 r (Qj xN) yB hk (h.cut Du hc2 xP hgb hy);have aIp:Wf ops g t L':=⟨hst.1,fun j o ho hn hl=>hst.2 j o ho (fun q=>hn ((h.on j).2 (.inl q))) (by rw [h.szL];rw [h.sz]at hl;exact hl)⟩;exact DV.res aIp hy h2
    ·cases hp
   ·cases hp
  ·cases hp
def drG (E:Env) (ops:Array Oper) (A:bA) (S:St) (k:bA->St->Bool):Bool:=
 match Fd E.P ops with
 | some l=>WZ ops (QC l) A fun A=>mO E ops l A S k
 | none=>match LE ops with
  | true=>match Ff E.P (ops.size+1) ops ⟨List.replicate ops.size false⟩ []with
   | some p=>WZ ops (Zl p) A fun A=>XI E p ops A S k
   | none=>false
  | false=>false
theorem aOK (hc:lG E.P w0 E.call) (hr:oG E.P w0 E.round) (hm:E.P.follows .mixedOrders=true):aGI E w0 (drG E):=by
 intro ops A S k U a w ro id Q hk hs hQ;unfold drG at hk;split at hk
 ·rename_i l hl
  exact aIz hc hr hm ops A S k U a w ro id Q (by unfold Km;rw [hl];exact hk) hs hQ
 ·split at hk
  ·rename_i aDD
   split at hk
   ·rename_i p hp
    have xN:=Ar aDD;obtain⟨A',hk,hA',hmk⟩:=Pz hs.act hk
    let Q0:Exit->Act->World->Prop:=fun e a' w'=>e= .normal/\Next E.P w0 U w k a' w'
    have xP:∀j,¬On (⟨List.replicate ops.size false⟩:Array Bool) j:=fun j h=>by
     unfold On at h;rcases BO j ops.size with h' | h'
     ·simp [h']at h
     ·simp [h']at h
    have aOI:rem (⟨List.replicate ops.size false⟩:Array Bool)<=ops.size:=by
     unfold rem;refine zR (List.countP_le_length) ?_;simp
    have h:=aBQ hc hr (ro:=ro) (Q:=Q0) (fun c a w h=>by cases h.1) (U0:=U) (wa:=w) hs.rel.base.size (fun a' w' h=>⟨rfl,h⟩) _ _ _ _ p xN hp (m:=ops.size) (X:=[]) (J:=[]) hk
     ⟨⟨hA',hs.rel.drew,by rw [hmk];exact hs.marks⟩,xZ.drew U w,by simp,by simp,fun j=>by simp,fun j h=>aX h (xP j),by simp,by simp,by simp,by simp,by simp,fun j h=>aX h (xP j),by simp,aOI,trivial,by simp⟩
    exact wpIn_mono (wpIn_region_any hm h.any) fun e a' w' hq=>by obtain⟨rfl,hn⟩:=hq;exact hQ a' w' hn
   ·cases hk
  ·cases hk
end
end Go.Am
