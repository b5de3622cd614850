/- AM: operations one behind the other; calls. -/
import Derived.Test.YtpcbceaggaddfaaGreatDoorGa
import Derived.TacticsIn
import Derived.RangeFuncLeaves
import Derived.Scope
import Derived.OrdersIn

noncomputable section
set_option maxRecDepth 100000
set_option linter.unusedVariables false
namespace Go.Am
open Go.RowKit Go.MapKept
def NZ(ro:Option Nat):Fence:={fn:=λ_=>True,depth:=none,alive:=false,round:=ro}
section
variable(P:Program)(w0:World)
def Good(U:Rn)(w:World)(K:VK)(v':Value)(w':World):Prop:=∃U' v S',K v S'=true/\VR U' v v'/\Rel P w0 U' S' w'/\uI U w U' w'
def aBT(U:Rn)(w:World)(K:VK)(e:Ending)(w':World):Prop:=∃v',e= .returned v'/\Good P w0 U w K v' w'
def iU(call:aDw):Prop:=∀(f:FuncId) (args:List Value) (S:St) (K:VK) (U:Rn) (w:World) (dR:List Value),call f args S K=true->Rel P w0 U S w->lD U args dR->
 (∀w,(callFunc f ⟨dR⟩).run P w= .ok (.enter f ⟨dR⟩) w)/\CallsIn (NZ none) 0 P f ⟨dR⟩ w (aBT P w0 U w K)
def nH(round:Nat->List Value->St->VK->Bool):Prop:=∀(l:Nat) (args:List Value) (S:St) (K:VK) (U:Rn) (w:World) (dR:List Value) (L:Loc),round l args S K=true->Rel P w0 U S w->lD U args dR->U l=some L->
 ∃f tmps assign body,(Instr.yield L.b ⟨dR⟩).run P w= .ok (.round L.b f tmps assign body) w/\RoundIn (NZ none) 0 P L.b f tmps assign body w (aBT P w0 U w K)
def aL6(L:Loc):Deferred:={target:= .collected L.b,args:= #[]}
def Sv(U:Rn)(marks:List Nat)(ds:List Deferred):Prop:=ds.length=marks.length/\∀(k d:Nat),marks[k]? =some d->∃L,U d=some L/\ds[k]? =some (aL6 L)
structure SR(U:Rn)(A:aO)(a:Act)(S:St)(w:World):Prop where
 act:xX P U A a
 rel:Rel P w0 U S w
 marks:Sv U A.marks a.defers
end
theorem Sv.mono{U U':Rn}(he:Ext U U'){m:List Nat}{d:List Deferred}(h:Sv U m d):Sv U' m d:=⟨h.1,λk x hx=>let⟨L,a,b⟩:=h.2 k x hx;⟨L,he _ _ a,b⟩⟩
section
variable{E:Env}{w0:World}{U:Rn}{S:St}{w:World}{ro:Option Nat}
def Next(P:Program)(w0:World)(U:Rn)(w:World)(k:aO->St->Bool)(a':Act)(w':World):Prop:=∃U' A' S',k A' S'=true/\SR P w0 U' A' a' S' w'/\uI U w U' w'
theorem Next.trans{P:Program}{U1:Rn}{w1:World}{k:aO->St->Bool}{a':Act}{w':World}(s:uI U w U1 w1)(h:Next P w0 U1 w1 k a' w'):Next P w0 U w k a' w':=
 let⟨U',A',S',h1,h2,h3⟩:=h;⟨U',A',S',h1,h2,s.trans h3⟩
theorem PX{P:Program}{A:aO}{a:Act}{d:Option Tmp}{k:aO->St->Bool}(hs:SR P w0 U A a S w){v':Value}{w':World}(h:Good P w0 U w (λv S=>mA A d v λA=>k A S) v' w'):Next P w0 U w k (a.put d v') w':=by
 obtain⟨U',v,S',hk,hv,hr,PY⟩:=h;obtain⟨A',hk,hA',hm⟩:=Yf (hs.act.mono PY.ext) hv hk;refine⟨U',A',S',hk,⟨hA',hr,?_⟩,PY⟩;rw [hm];have:(a.put d v').defers=a.defers:=by cases d<;>rfl
 rw [this];exact hs.marks.mono PY.ext
def aGE:Value->Option Bool
 | .bool b=>some b
 | _=>none
theorem Jw{ops:Array Oper}{tmps:Array Value}{j:Nat}{o:Oper}{d:Tmp}{v:Value}(h1:ops[j]? =some o)(h2:o.dst=some d)(h3:tmps[d]? =some v):yielded ops tmps j=aGE v:=by
 unfold yielded;rw [h1];simp only [Bh,h2,h3];cases v<;>rfl
theorem MS{ops:Array Oper}{o:Oper}{A:aO}{a:Act}(hA:xX E.P U A a){k:Bool->Bool}(hk:zP ops o A k=true):k (Region.wanted o (yielded ops a.tmps))=true:=by
 unfold zP at hk;unfold Region.wanted;cases hg:o.guard with
 | none=>rw [hg]at hk;exact hk
 | some jw=>
  obtain⟨j,want⟩:=jw;rw [hg]at hk;simp only at hk ⊢;split at hk
  ·rename_i o' TD
   split at hk
   ·rename_i d hd
    obtain⟨v,hv,hk⟩:=CZ hk;obtain⟨v',FG,hr⟩:=hA.tmps.get hv;have Sw:a.tmps[d]? =some v':=by rw [<-FG];simp
    have hy:=Jw TD hd Sw;rw [hy];split at hk
    ·rename_i b
     have e:=hr.of_flat rfl;rw [e];cases b<;>cases want<;>exact hk
    ·rename_i hnb
     have hb:aGE v'=none:=by
      cases v' with
      | bool b=>cases hr with | flat _=>exact absurd rfl (hnb b)
      | _=>rfl
     rw [hb];exact hk
   ·rename_i hd
    have hy:yielded ops a.tmps j=none:=by unfold yielded;rw [TD];simp [hd]
    rw [hy];exact hk
  ·rename_i TD
   have hy:yielded ops a.tmps j=none:=by unfold yielded;rw [TD];simp
   rw [hy];exact hk
theorem Jy(o:Oper)(P:Program)(w:World)(U:Operand->Value):∀f,o.about P w U=some f->(NZ ro).fn f:=λ_ _=>trivial
theorem PZ{P:Program}{n:Nat}{f:FuncId}{args:Array Value}{R:Ending->World->Prop}(h:CallsIn (NZ none) n P f args w R):CallsIn (NZ ro) n P f args w R:=h
theorem Yg{P:Program}{n l:Nat}{f:FuncId}{tmps:Array Value}{as bo:Code}{R:Ending->World->Prop}(h:RoundIn (NZ none) n P l f tmps as bo w R):RoundIn (NZ ro) n P l f tmps as bo w R:=h
theorem aBU{P:Program}{t:TypeId}{name:String}{g:FuncId}(h:GK P t name=some g)(x:Value)(args:Array Value)(w:World):(callMethod (.iface t x) name args).run P w=(callFunc g (#[x]++args)).run P w:=by
 unfold GK at h;split at h
 ·rename_i info d hi hd
  split at h
  ·rename_i m hm
   split at h
   ·rename_i g' pr hp hf
    have hp:m.path= #[]:=iR.1 (by simpa using hp);have aGD:P.types.size+Made.depth=(P.types.size+99)+1:=rfl
    have aJM:(receiverAt t (.val x) pr (if m.path.isEmpty then some ((name.splitOn ".").getLastD name)else none)).run P w= .ok x w/\g'=g:=by
     unfold receiverAt;split at h
     ·injection h with h;subst h
      simp [run_underlying hd,Place.get]
     ·cases h
     ·rename_i IF
      injection h with h;subst h;refine⟨?_,rfl⟩;simp only [bY,run_underlying hd,dU];cases d<;>first | rfl | (exact absurd rfl (IF _))
     ·cases h
    obtain⟨aJM,rfl⟩:=aJM
    have aOi:(method (P.types.size+Made.depth) t x name).run P w= .ok (g',x) w:=by
     rw [aGD];unfold method;simp only [bY,TY hi,dU,hm,hp];unfold follow;simp only [jU,dU,hf];rw [hp]at aJM;simp only [bY,aJM,dU,jU]
    simp only [callMethod,bY,run_program,dU,aOi]
   ·cases h
  ·cases h
 ·cases h
theorem aGF(hc:iU E.P w0 E.call)(hr:nH E.P w0 E.round)(h:Rel E.P w0 U S w){A:aO}{a:Act}(hA:xX E.P U A a){o:Oper}{K:VK}(hk:wW E o A S K=true){next:Act->World->Prop}{Q:Exit->Act->World->Prop}
 (hn:∀v' w',Good E.P w0 U w K v' w'->next (a.put o.dst v') w'):o.wpIn (NZ ro) 0 E.P a w next Q:=by
 refine⟨Jy o _ _ _,?_⟩;by_cases hq:Quiet o
 ·obtain⟨r,U',v,S',v',w',h1,h2,h3,h4,h5,h6⟩:=aER h hA hq hk
  have IF:∀c,o.op≠ .defer c:=λc e=>by unfold wW at hk;rw [e]at hk;cases hk
  rw [Oper.semAt_eq _ _ _ IF,h2];rcases h3 with rfl | ⟨rfl,rfl⟩
  ·exact hn v' w' ⟨U',v,S',h1,h4,h5,h6⟩
  ·exact hn undef w' ⟨U',v,S',h1,h4,h5,h6⟩
 ·have:∃c,o.op= .call c/\∀b,c.callee≠ .builtin b:=by
   unfold Quiet at hq;simp only [Classical.not_forall]at hq;obtain⟨c,hc,hb⟩:=hq;exact⟨c,hc,λb e=>hb ⟨b,e⟩⟩
  obtain⟨c,OP,hnb⟩:=this;rw [Oper.semAt_eq _ _ _ (λd e=>by rw [OP]at e;cases e)];unfold wW at hk;unfold execOp;rw [OP]at hk ⊢;simp only at hk ⊢;unfold mO at hk;obtain⟨args,hk,NY⟩:=yA h hA hk;split at hk
  ·rename_i b hb;exact absurd hb (hnb b)
  ·rename_i f hf
   obtain⟨fv,hk,hfv⟩:=aK h hA hk;split at hk
   ·rename_i g first captured
    rw [lE,lE]at hk;generalize hfe:a.eval f=fv' at hfv;cases hfv with
    | flat Nm=>simp [bE]at Nm
    | func h1 h2 h3 h4=>
     rename_i yB mI;have hf1:lD U first.toList yB.toList:=⟨by simpa using h1,h3⟩
     have Nn:lD U captured.toList mI.toList:=⟨by simpa using h2,h4⟩;obtain⟨he,OA⟩:=hc g _ S K U w _ hk h ((hf1.append NY).append Nn);have e1:(⟨yB.toList++c.args.toList.map a.eval++mI.toList⟩:Array Value)=(yB++c.args.map a.eval)++mI:=by apply iR.1;simp
     rw [e1]at he OA
     have dF:(do let d<-resolve a.eval c o.type;invoke d.target d.args:Sem Go.Next).run E.P w= .ok (.enter g ((yB++c.args.map a.eval)++mI)) w:=by
      simp only [bY,resolve,hf,hfe,Deferred.ofValue,jU,dU,invoke];exact he w
     rw [dF];refine⟨(λhd=>nomatch hd),CallsIn.mono (PZ OA) ?_⟩
     rintro e w' ⟨v',rfl,hg⟩
     exact hn v' w' hg
   ·rename_i l first captured
    split at hk
    ·rename_i hl1 Hi
     have hl1:first= #[]:=iR.1 (by simpa using hl1)
     have Hi:captured= #[]:=iR.1 (by simpa using Hi);subst hl1 Hi;generalize hfe:a.eval f=fv' at hfv;cases hfv with
     | flat Nm=>simp [bE]at Nm
     | yield hL=>
      rename_i L;obtain⟨fn,tmps,as,bo,hy,aL7⟩:=hr l args S K U w _ L hk h NY hL;have e1:(⟨c.args.toList.map a.eval⟩:Array Value)= #[]++c.args.map a.eval:=by apply iR.1;simp
      rw [e1]at hy
      have dF:(do let d<-resolve a.eval c o.type;invoke d.target d.args:Sem Go.Next).run E.P w= .ok (.round L.b fn tmps as bo) w:=by
       simp only [bY,resolve,hf,hfe,Deferred.ofValue,jU,dU,invoke];exact hy
      rw [dF];refine⟨(λhd=>nomatch hd),RoundIn.mono (Yg aL7) ?_⟩
      rintro e w' ⟨v',rfl,hg⟩
      exact hn v' w' hg
    ·cases hk
   ·cases hk
  ·rename_i r m hf
   obtain⟨fv,hk,hfv⟩:=aK h hA hk;split at hk
   ·rename_i t x
    split at hk
    ·rename_i g hg
     generalize hfe:a.eval r=fv' at hfv;cases hfv with
     | flat Nm=>simp [bE]at Nm
     | @iface _ _ x' hx=>
      obtain⟨he,OA⟩:=hc g _ S K U w _ hk h (lD.cons hx NY);have e1:(⟨x'::c.args.toList.map a.eval⟩:Array Value)= #[x']++c.args.map a.eval:=by apply iR.1;simp
      rw [e1]at he OA
      have dF:(do let d<-resolve a.eval c o.type;invoke d.target d.args:Sem Go.Next).run E.P w= .ok (.enter g (#[x']++c.args.map a.eval)) w:=by
       simp only [bY,resolve,hf,hfe,jU,dU,invoke];have e2:(#[Value.iface t x']++c.args.map a.eval)[0]? =some (Value.iface t x'):=by rw [Array.getElem?_append_left (by simp)];rfl
       have e3:(#[Value.iface t x']++c.args.map a.eval).extract 1 (#[Value.iface t x']++c.args.map a.eval).size=c.args.map a.eval:=by
        apply iR.1;simp [aBF,List.extract];exact oS (by simp)
       simp only [e2,e3];exact(aBU hg x' _ w).trans (he w)
      rw [dF];refine⟨(λhd=>nomatch hd),CallsIn.mono (PZ OA) ?_⟩
      rintro e w' ⟨v',rfl,hg⟩
      exact hn v' w' hg
    ·cases hk
   ·cases hk
theorem aJN(hc:iU E.P w0 E.call)(hr:nH E.P w0 E.round){ops:Array Oper}{k:aO->St->Bool}{Q:Exit->Act->World->Prop}:∀(l:List Oper) {U:Rn} {A:aO} {a:Act} {S:St} {w:World},TA E ops l A S k=true->SR E.P w0 U A a S w->
 (∀a' w',Next E.P w0 U w k a' w'->Q .normal a' w')->wpListIn (NZ ro) 0 E.P ops Q l a w:=by
 intro l;induction l with
 | nil=>intro U A a S w hk hs hQ;exact hQ a w ⟨U,A,S,hk,hs,.refl U w⟩
 | cons o l ih=>
  intro U A a S w hk hs hQ;have hk:VD E ops o A S (TA E ops l · · k)=true:=hk;unfold VD at hk;have hk:=MS hs.act hk;unfold wpListIn
  have go:∀a' w',Next E.P w0 U w (TA E ops l · · k) a' w'->wpListIn (NZ ro) 0 E.P ops Q l a' w':=by
   rintro a' w' ⟨U',A',S',h1,h2,h3⟩
   exact ih h1 h2 λa2 w2 h=>hQ a2 w2 (h.trans h3)
  cases hw:Region.wanted o (yielded ops a.tmps)with
  | true=>
   rw [hw]at hk;simp only [if_true];have hk:wW E o A S (λv S=>mA A o.dst v λA=>TA E ops l A S k)=true:=hk;exact aGF hc hr hs.rel hs.act hk λv' w' hg=>go _ _ (PX hs hg)
  | false=>
   rw [hw]at hk;simp only [bQ,if_false];have hk:mA A o.dst undef (λA=>TA E ops l A S k)=true:=hk;exact⟨Jy o _ _ _,go _ _ (PX (k:=λA S=>TA E ops l A S k) hs ⟨U,undef,S,hk,.undef,hs.rel,.refl U w⟩)⟩
end
section
variable{F:Fence}{n:Nat}{P:Program}{Q:Exit->Act->World->Prop}{a:Act}{w:World}{b:Frame}{k:List Item}{cs:List Frame}
theorem yM{c:Code}:step P (lone (b.atR a (.code (.scope c)::k)) cs w)= .next (lone (b.atR a (.code c:: .inScope c::k)) cs w):=step_lone_go (by simp [stepG,stepG.exec,Frame.atR])
theorem Oc{c:Code}:step P (lone (b.atR a (.inScope c::k)) cs w)= .next (lone (b.atR a k) cs w):=step_lone_go (by simp [stepG,stepG.exec,Frame.atR])
theorem Jz{c:Code}(h:c.wpIn F n P (Exit.noGoto Q) a w):(Code.scope c).wpIn F n P Q a w:=by
 intro b k cs qR hb hr;have h0:(lone (b.atR a (.code (.scope c)::k)) cs w).fenced P F:=fenced_calm hb hr rfl;obtain⟨e,a₁,w₁,hq,aES⟩:=h b (.inScope c::k) cs qR hb hr;cases e with
 | normal=>exact⟨.normal,a₁,w₁,hq,.head h0 yM (StepsIn.trans aES (.one (fenced_calm hb hr rfl) Oc))⟩
 | exit id=>
  have hx:exitTo id (.inScope c::k)=exitTo id k:=by simp [exitTo]
  exact⟨.exit id,a₁,w₁,hq,λk' hk=> .head h0 yM (aES.1 k' (by rw [hx];exact hk)),
   λhr' hk=>let⟨k₁,h1,h2⟩:=aES.2 hr' (by rw [hx];exact hk);⟨k₁,h1,.head h0 yM h2⟩⟩
 | goto l=>exact hq.elim
 | ret=>exact⟨.ret,a₁,w₁,hq,.of_steps (.one h0 yM) aES⟩
 | panic ch=>exact⟨.panic ch,a₁,w₁,hq,.of_steps (.one h0 yM) aES⟩
 | outgrown=>exact⟨.outgrown,a₁,w₁,hq,.of_steps (.one h0 yM) aES⟩
end
def exR:wB->Exit
 | .normal=> .normal
 | .exit id=> .exit id
 | .ret=> .ret
section
variable{E:Env}{w0:World}
def Arr(P:Program)(w0:World)(U:Rn)(w:World)(K:VF)(e:Exit)(a':Act)(w':World):Prop:=∃U' ae A' S',e=exR ae/\K ae A' S'=true/\SR P w0 U' A' a' S' w'/\uI U w U' w'
theorem Arr.trans{P:Program}{U U1:Rn}{w w1:World}{K:VF}{e:Exit}{a':Act}{w':World}(s:uI U w U1 w1)(h:Arr P w0 U1 w1 K e a' w'):Arr P w0 U w K e a' w':=
 let⟨U',ae,A',S',h0,h1,h2,h3⟩:=h;⟨U',ae,A',S',h0,h1,h2,s.trans h3⟩
def RoR(U:Rn)(r ro:Option Nat):Prop:=(r=none/\ro=none)\/∃l L,r=some l/\U l=some L/\ro=some L.b
theorem RoR.mono{U U':Rn}(he:Ext U U'){r ro:Option Nat}(h:RoR U r ro):RoR U' r ro:=by
 rcases h with h | ⟨l,L,h1,h2,h3⟩
 ·exact .inl h
 ·exact .inr ⟨l,L,h1,he _ _ h2,h3⟩
abbrev DrT:=Array Oper->aO->St->(aO->St->Bool)->Bool
def aET(E:Env)(w0:World)(dr:DrT):Prop:=∀(ops:Array Oper) (A:aO) (S:St) (k:aO->St->Bool) (U:Rn) (a:Act) (w:World) (ro:Option Nat) (id:Nat) (Q:Exit->Act->World->Prop),dr ops A S k=true->SR E.P w0 U A a S w->
 (∀a' w',Next E.P w0 U w k a' w'->Q .normal a' w')->(Code.region id ops true).wpIn (NZ ro) 0 E.P Q a w
theorem exists_least{p:Nat->Prop}(h:∃m,p m):∃m,p m/\∀j,p j->m<=j:=by
 obtain⟨m,hm⟩:=h;induction m using Nat.strongRecOn with
 | _ m ih=>
  by_cases hl:∃j,j<m/\p j
  ·obtain⟨j,hj,hp⟩:=hl;exact ih j hj hp
  ·exact⟨m,hm,λj hj=>Nat.le_of_not_lt λhlt=>hl ⟨j,hlt,hj⟩⟩
def least(p:Nat->Prop):Nat:=open Classical in if h:∃m,p m then(exists_least h).choose else 0
theorem MT{p:Nat->Prop}{m:Nat}(h:p m):p (least p)/\least p<=m:=by
 have hx:∃m,p m:=⟨m,h⟩;unfold least;rw [dif_pos hx];exact⟨(exists_least hx).choose_spec.1,(exists_least hx).choose_spec.2 m h⟩
def aGG(body:aO->St->VF->Bool)(K:VF)(m:Nat):aO->St->Bool:=
 ML (β:=aO->St->Bool) (λ_ _=>false) (λ_ ih A S=>body A S λe A S=>match e with | .normal=>ih A S | e=>K e A S) m
theorem vA{U:Rn}{S:St}{w:World}{P:Program}(h:Rel P w0 U S w){l:Nat}{tm:Tm}{ps:List Tmp}{as bo:Code}{st:LoopState}{pe:Option Code}(ho:S.obj l=some (.loop tm ps as bo st pe)){L:Loc}(hL:U l=some L):
 ∃r,w0.heap.size<=L.b/\w.heap[L.b]? =some (.loop r)/\r.state=st/\r.pending=pe/\r.params.toList=ps/\r.assign=as/\r.body=bo/\Yh U tm r.tmps.toList:=by
 obtain⟨M,r,h1,h2⟩:=h.GO l _ ho;rw [hL]at h1;injection h1 with h1;subst h1;exact⟨r,h2⟩
theorem QA{U:Rn}{S:St}{w:World}{P:Program}(h:Rel P w0 U S w){l:Nat}{tm:Tm}{ps:List Tmp}{as bo:Code}{st:LoopState}{pe:Option Code}(ho:S.obj l=some (.loop tm ps as bo st pe)){L:Loc}(hL:U l=some L)
 {r:Loop} (hb:w0.heap.size<=L.b) (hr:w.heap[L.b]? =some (.loop r)) (Ee:r.params.toList=ps) (has:r.assign=as) (hbo:r.body=bo) (htm:Yh U tm r.tmps.toList) (Hj:LoopState) (pe':Option Code):
 Rel P w0 U (S.set l (.loop tm ps as bo Hj pe')) (w.putObj L.b (.loop {r with state:=Hj,pending:=pe'}))/\uI U w U (w.putObj L.b (.loop {r with state:=Hj,pending:=pe'}))/\
  (setObj L.b (.loop {r with state:=Hj,pending:=pe'})).run P w= .ok () (w.putObj L.b (.loop {r with state:=Hj,pending:=pe'})):=by
 obtain⟨r1,r2⟩:=h.aJJ (o':= .loop tm ps as bo Hj pe') ho rfl rfl rfl hL hb rfl (.loop {r with state:=Hj,pending:=pe'}) (λhh=>⟨L,_,hL,hb,hh,rfl,rfl,Ee,has,hbo,htm⟩);exact⟨r1,r2,by simp [setObj,Sem.run,hr];rfl⟩
theorem run_getLoop{P:Program}{w:World}{b:Nat}{r:Loop}(h:w.heap[b]? =some (.loop r)):(Instr.getLoop b).run P w= .ok r w:=by
 simp [Instr.getLoop,getObj,Sem.run,h]
theorem oH{S:St}{l:Nat}{k:iP->Bool}(h:oV S.h l k=true):∃o,S.obj l=some o/\k o=true:=by
 rw [lV]at h;cases ho:S.h.get l with
 | none=>rw [ho]at h;cases h
 | some o=>rw [ho]at h;exact⟨o,ho,h⟩
end
section
variable{E:Env}{w0:World}
theorem Yi(P:Program)(o:Obj)(w:World):(newObj o).run P w= .ok w.heap.size (w.alloc o):=rfl
theorem Ka(hc:iU E.P w0 E.call){params:Array Tmp}{assign body:Code}{U:Rn}{A:aO}{a:Act}{S:St}{w:World}{K:VF}{ro:Option Nat}{Q:Exit->Act->World->Prop}{g:FuncId}{first captured:List Value}{yB mI:Array Value}
 (h:Rel E.P w0 U S w) (hA:xX E.P U A a) (hD:Sv U A.marks a.defers) {R:Loop} (h1:R.state= .ready) (h2:R.pending=none) (h3:R.tmps=a.tmps) (h4:R.params=params) (h5:R.assign=assign) (h6:R.body=body)
 (hf:lD U first yB.toList) (Si:lD U captured mI.toList)
 (hk:(uH S (.loop A.tmps params.toList assign body .ready none) λl S=>
  zN first [.func (.yield l) #[] #[]] λas=>zN as captured λas=>E.call g as S λ_ S=>
   oV S.h l λo=>match o with
    | .loop tm ps as bo st pe=>match st with
     | .busy=>false
     | _=>rE S l (.loop tm ps as bo .exhausted pe) λS=>match pe with
      | none=>K .normal A S
      | some .ret=>K .ret A S
      | some (.exit id)=>K (.exit id) A S
      | _=>false
    | _=>false)=true)
 (hQ:∀e a' w',Arr E.P w0 U w K e a' w'->Q e a' w'):
 (∀w',(callFunc g ((yB++ #[.func (.yield w.heap.size) #[] #[]])++mI)).run E.P w'= .ok (.enter g ((yB++ #[.func (.yield w.heap.size) #[] #[]])++mI)) w')/\
  CallsIn (NZ ro) 0 E.P g ((yB++ #[.func (.yield w.heap.size) #[] #[]])++mI) (w.alloc (.loop R)) (rangePost (NZ ro) 0 E.P w.heap.size Q a):=by
 rw [gZ]at hk
 obtain⟨r1,s1⟩:=h.new (.loop A.tmps params.toList assign body .ready none) (.loop R) ⟨w.heap.size,0,0,0⟩ rfl
  (λU' he hU=>⟨_,R,hU,h.base.size,by show(w.heap.push _)[w.heap.size]? =_;simp,h1,h2,by rw [h4],h5,h6,by rw [h3];exact hA.tmps.mono he⟩) (by simp [iP.olds])
 have hL:=Rn.kD U S.n ⟨w.heap.size,0,0,0⟩;simp only [lE]at hk
 have NY:lD (U.put S.n ⟨w.heap.size,0,0,0⟩) (first++[.func (.yield S.n) #[] #[]]++captured) (yB.toList++[.func (.yield w.heap.size) #[] #[]]++mI.toList):=
  ((hf.mono s1.ext).append (.cons (.yield hL) (.nil _))).append (Si.mono s1.ext)
 obtain⟨he,OA⟩:=hc g _ _ _ _ _ _ hk r1 NY;have e1:(⟨yB.toList++[.func (.yield w.heap.size) #[] #[]]++mI.toList⟩:Array Value)=(yB++ #[.func (.yield w.heap.size) #[] #[]])++mI:=by apply iR.1;simp
 rw [e1]at he OA;refine⟨he,CallsIn.mono (PZ OA) ?_⟩
 rintro e w' ⟨v',rfl,U',v,S',hk,hv,r2,s2⟩
 obtain⟨o,ho,hk⟩:=oH hk;have Sq:U' S.n=some ⟨w.heap.size,0,0,0⟩:=s2.ext _ _ hL;split at hk
 ·rename_i tm ps as bo st pe
  obtain⟨r,hb,hr,Xe,hpe,Ee,has,hbo,htm⟩:=vA r2 ho Sq
  have hkk:st≠ .busy/\rE S' S.n (.loop tm ps as bo .exhausted pe) (λS=>match(generalizing:=false) pe with
   | none=>K .normal A S
   | some .ret=>K .ret A S
   | some (.exit id)=>K (.exit id) A S
   | _=>false)=true:=by
   split at hk
   ·cases hk
   ·rename_i hnb;exact⟨λe=>hnb e,hk⟩
  obtain⟨hnb,hk⟩:=hkk;rw [gR]at hk;obtain⟨r3,s3,BS⟩:=QA r2 ho Sq hb hr Ee has hbo htm .exhausted pe
  have Yb:(Instr.endLoop w.heap.size).run E.P w'= .ok pe (w'.putObj w.heap.size (.loop {r with state:= .exhausted,pending:=pe})):=by
   have aPT:r.state≠ .busy:=by rw [Xe];exact hnb
   simp [Instr.endLoop,run_getLoop hr,aPT,hpe,BS]
  have aL8:=(s1.trans s2).trans s3
  have hsr:SR E.P w0 U' A a (S'.set S.n (.loop tm ps as bo .exhausted pe)) (w'.putObj w.heap.size (.loop {r with state:= .exhausted,pending:=pe})):=
   ⟨hA.mono (s1.ext.trans s2.ext),r3,hD.mono (s1.ext.trans s2.ext)⟩
  refine⟨pe,_,Yb,?_⟩;split at hk
  ·exact hQ _ _ _ ⟨U',.normal,A,_,rfl,hk,hsr,aL8⟩
  ·exact wpIn_ret (hQ _ _ _ ⟨U',.ret,A,_,rfl,hk,hsr,aL8⟩)
  ·exact wpIn_exit (hQ _ _ _ ⟨U',.exit _,A,_,rfl,hk,hsr,aL8⟩)
  ·cases hk
 ·cases hk
theorem Po(hc:iU E.P w0 E.call){f:Operand}{params:Array Tmp}{assign body:Code}{U:Rn}{A:aO}{a:Act}{S:St}{w:World}{K:VF}{r ro:Option Nat}{Q:Exit->Act->World->Prop}
 (hk:VG E r f params assign body A S K=true) (hs:SR E.P w0 U A a S w) (qR:RoR U r ro) (hQ:∀e a' w',Arr E.P w0 U w K e a' w'->Q e a' w'):(Code.rangeFunc f params assign body).wpIn (NZ ro) 0 E.P Q a w:=by
 unfold VG at hk;obtain⟨fv,hk,hfv⟩:=aK hs.rel hs.act hk;split at hk
 ·rename_i g first captured
  refine wpIn_rangeFunc λfn _=>?_;generalize hfe:a.eval f=fv' at hfv;cases hfv with
  | flat Nm=>simp [bE]at Nm
  | func h1 h2 h3 h4=>
   rename_i yB mI;have hf1:lD U first.toList yB.toList:=⟨by simpa using h1,h3⟩
   have Nn:lD U captured.toList mI.toList:=⟨by simpa using h2,h4⟩
   have aOj:∀(l:Nat) (w:World),(resolve a.eval (rangeCall f l) 0).run E.P w= .ok {target:= .fn (.func g) mI,args:=yB++ #[.func (.yield l) #[] #[]]} w:=by
    intro l w;simp [resolve,hfe,Deferred.ofValue];rfl
   rcases qR with ⟨rfl,rfl⟩ | ⟨l,L,rfl,hL,rfl⟩
   ·simp only [gZ]at hk
    obtain⟨r1,s1⟩:=hs.rel.new .defers (.deferred (some [])) ⟨w.heap.size,0,0,0⟩ rfl
     (λU' he hU=>⟨_,hU,hs.rel.base.size,by show(w.heap.push _)[w.heap.size]? =_;simp⟩) (by simp [iP.olds])
    have hLd:=Rn.kD U S.n ⟨w.heap.size,0,0,0⟩
    have hD:Sv (U.put S.n ⟨w.heap.size,0,0,0⟩) (S.n::A.marks) ({target:= .collected w.heap.size,args:= #[]}::a.defers):=by
     refine⟨by simp [hs.marks.1],λk d hk=>?_⟩;cases k with
     | zero=>simp at hk;subst hk;exact⟨_,hLd,rfl⟩
     | succ k=>simp at hk;obtain⟨L,g1,g2⟩:=hs.marks.2 k d hk;exact⟨L,s1.ext _ _ g1,by simpa using g2⟩
    have Yj:=Ka (Q:=Q) (a:={a with defers:={target:= .collected w.heap.size,args:= #[]}::a.defers}) (A:=⟨A.tmps,S.n::A.marks,A.g⟩) (ro:=none) hc r1 ⟨hs.act.tmps.mono s1.ext,hs.act.g⟩ hD
     (R:={state:= .ready,pending:=none,fn,tmps:=a.tmps,params,assign,body,defers:=w.heap.size}) rfl rfl rfl rfl rfl rfl (hf1.mono s1.ext) (Nn.mono s1.ext) (K:=K) (g:=g) (by rw [gZ];exact hk)
     (λe a' w' h=>hQ e a' w' (h.trans s1))
    refine⟨(w.alloc (.deferred (some []))).heap.size,[{target:= .collected w.heap.size,args:= #[]}],(w.alloc (.deferred (some []))).alloc (.loop {state:= .ready,pending:=none,fn,tmps:=a.tmps,params,assign,body,defers:=w.heap.size}),_,
     (w.alloc (.deferred (some []))).alloc (.loop {state:= .ready,pending:=none,fn,tmps:=a.tmps,params,assign,body,defers:=w.heap.size}),g,_,_,?_,aOj _ _,λ_ _=>trivial,Yj.1 _,(λhd=>nomatch hd),Yj.2⟩
    simp only [Instr.enterLoop];rfl
   ·obtain⟨o,ho,hk⟩:=oH hk
    split at hk
    ·rename_i tm ps as bo st pe
     obtain⟨r,hb,hr,_⟩:=vA hs.rel ho hL
     have Yj:=Ka (Q:=Q) (a:=a) (A:=A) (ro:=some L.b) hc hs.rel hs.act hs.marks
      (R:={state:= .ready,pending:=none,fn,tmps:=a.tmps,params,assign,body,defers:=r.defers}) rfl rfl rfl rfl rfl rfl hf1 Nn (K:=K) (g:=g) hk hQ
     refine⟨w.heap.size,[],w.alloc (.loop {state:= .ready,pending:=none,fn,tmps:=a.tmps,params,assign,body,defers:=r.defers}),_,w.alloc (.loop {state:= .ready,pending:=none,fn,tmps:=a.tmps,params,assign,body,defers:=r.defers}),g,_,_,?_,aOj _ _,
      λ_ _=>trivial,Yj.1 _,(λhd=>nomatch hd),Yj.2⟩
     simp only [Instr.enterLoop,NZ,bY,run_getLoop hr,Yi,dU,jU]
    ·cases hk
 ·cases hk
end
section
variable{E:Env}{w0:World}
theorem XX(hc:iU E.P w0 E.call)(hr:nH E.P w0 E.round){dr:DrT}(hd:aET E w0 dr):∀(c:Code) {U:Rn} {A:aO} {a:Act} {S:St} {w:World} {K:VF} {r ro:Option Nat} {Q:Exit->Act->World->Prop},
 uU E dr r c A S K=true->SR E.P w0 U A a S w->RoR U r ro->(∀e a' w',Arr E.P w0 U w K e a' w'->Q e a' w')->c.wpIn (NZ ro) 0 E.P Q a w:=by
 intro c;induction c with
 | skip=>intro U A a S w K r ro Q hk hs qR hQ;exact wpIn_skip (hQ _ _ _ ⟨U,.normal,A,S,rfl,hk,hs,.refl U w⟩)
 | label l=>intro U A a S w K r ro Q hk hs qR hQ;exact wpIn_label (hQ _ _ _ ⟨U,.normal,A,S,rfl,hk,hs,.refl U w⟩)
 | ret=>intro U A a S w K r ro Q hk hs qR hQ;exact wpIn_ret (hQ _ _ _ ⟨U,.ret,A,S,rfl,hk,hs,.refl U w⟩)
 | exit id=>intro U A a S w K r ro Q hk hs qR hQ;exact wpIn_exit (hQ _ _ _ ⟨U,.exit id,A,S,rfl,hk,hs,.refl U w⟩)
 | goto l=>intro U A a S w K r ro Q hk hs qR hQ;cases hk
 | refuse l=>intro U A a S w K r ro Q hk hs qR hQ;cases hk
 | region id ops draw=>
  intro U A a S w K r ro Q hk hs qR hQ
  have Np:∀a' w',Next E.P w0 U w (λA S=>K .normal A S) a' w'->Q .normal a' w':=by
   rintro a' w' ⟨U',A',S',h1,h2,h3⟩
   exact hQ _ _ _ ⟨U',.normal,A',S',rfl,h1,h2,h3⟩
  cases draw with
  | true=>exact hd ops A S _ U a w ro id Q hk hs Np
  | false=>exact wpIn_region_list (aJN hc hr ops.toList hk hs Np)
 | seq x y ihx ihy=>
  intro U A a S w K r ro Q hk hs qR hQ;have hk:uU E dr r x A S (λe A S=>match e with | .normal=>uU E dr r y A S K | e=>K e A S)=true:=hk;refine wpIn_seq (ihx hk hs qR ?_)
  rintro e a' w' ⟨U',ae,A',S',rfl,h1,h2,h3⟩
  cases ae with
  | normal=>exact ihy h1 h2 (qR.mono h3.ext) λe a w h=>hQ e a w (h.trans h3)
  | exit id=>exact hQ _ _ _ ⟨U',.exit id,A',S',rfl,h1,h2,h3⟩
  | ret=>exact hQ _ _ _ ⟨U',.ret,A',S',rfl,h1,h2,h3⟩
 | cond c x y ihx ihy=>
  intro U A a S w K r ro Q hk hs qR hQ;have hk:tC A c (λv=>match v with | .bool b=>dL b (uU E dr r x A S K) (uU E dr r y A S K) | _=>false)=true:=hk;obtain⟨v,hk,hv⟩:=aK hs.rel hs.act hk;split at hk
  ·rename_i b
   have e:=hv.of_flat rfl;cases b with
   | true=>exact wpIn_cond_true e (ihx hk hs qR hQ)
   | false=>exact wpIn_cond_false e (ihy hk hs qR hQ)
  ·cases hk
 | block id x ih=>
  intro U A a S w K r ro Q hk hs qR hQ
  have hk:uU E dr r x A S (λe A S=>match e with
   | .exit i=>match Nat.beq i id with | true=>K .normal A S | false=>K (.exit i) A S
   | e=>K e A S)=true:=hk
  refine wpIn_block (ih hk hs qR ?_)
  rintro e a' w' ⟨U',ae,A',S',rfl,h1,h2,h3⟩
  cases ae with
  | normal=>exact hQ _ _ _ ⟨U',.normal,A',S',rfl,h1,h2,h3⟩
  | ret=>exact hQ _ _ _ ⟨U',.ret,A',S',rfl,h1,h2,h3⟩
  | exit i=>
   simp only at h1;show Exit.inBlock id Q (.exit i) a' w';split at h1
   ·rename_i hi
    have hi:=cT hi;subst hi;simp only [Exit.inBlock,if_true];exact hQ _ _ _ ⟨U',.normal,A',S',rfl,h1,h2,h3⟩
   ·rename_i hi
    have hi:=OX hi;simp only [Exit.inBlock,hi,if_false];exact hQ _ _ _ ⟨U',.exit i,A',S',rfl,h1,h2,h3⟩
 | scope x ih=>
  intro U A a S w K r ro Q hk hs qR hQ;have hk:uU E dr r x A S K=true:=hk;refine Jz (ih hk hs qR ?_)
  rintro e a' w' ⟨U',ae,A',S',rfl,h1,h2,h3⟩
  cases ae with
  | normal=>exact hQ _ _ _ ⟨U',.normal,A',S',rfl,h1,h2,h3⟩
  | exit id=>exact hQ _ _ _ ⟨U',.exit id,A',S',rfl,h1,h2,h3⟩
  | ret=>exact hQ _ _ _ ⟨U',.ret,A',S',rfl,h1,h2,h3⟩
 | rangeFunc f ps as bo _ _=>
  intro U A a S w K r ro Q hk hs qR hQ;exact Po hc hk hs qR hQ
 | loop x ih=>
  intro U A a S w K r ro Q hk hs qR hQ;have hk:aGG (uU E dr r x) K E.most A S=true:=hk
  let I:Nat->Act->World->Prop:=λm a' w'=>Next E.P w0 U w (aGG (uU E dr r x) K m) a' w'
  refine wpIn_loop (I:=λa w=>∃m,I m a w) (μ:=λa w=>least λm=>I m a w) ⟨E.most,U,A,S,hk,hs,.refl U w⟩ ?_
  rintro a1 w1 ⟨m0,hm0⟩
  obtain⟨hm,_⟩:=MT (p:=λm=>I m a1 w1) hm0;generalize aPU:least (λm=>I m a1 w1)=m at hm;obtain⟨U1,A1,S1,h1,h2,h3⟩:=hm;cases m with
  | zero=>cases h1
  | succ m=>
   have h1:uU E dr r x A1 S1 (λe A S=>match e with | .normal=>aGG (uU E dr r x) K m A S | e=>K e A S)=true:=h1;refine ih h1 h2 (qR.mono h3.ext) ?_
   rintro e a' w' ⟨U',ae,A',S',rfl,g1,g2,g3⟩
   cases ae with
   | normal=>
    have hI:I m a' w':=⟨U',A',S',g1,g2,h3.trans g3⟩;refine⟨⟨m,hI⟩,?_⟩;have:=(MT (p:=λm=>I m a' w') hI).2;exact Nat.lt_succ_of_le this
   | exit id=>exact hQ _ _ _ ⟨U',.exit id,A',S',rfl,g1,g2,h3.trans g3⟩
   | ret=>exact hQ _ _ _ ⟨U',.ret,A',S',rfl,g1,g2,h3.trans g3⟩
end
section
variable{E:Env}{w0:World}
theorem QB{P:Program}{U:Rn}{S:St}{w:World}(h:Rel P w0 U S w){A:aO}{a:Act}(hA:xX P U A a):∀{rs:List ResultVar} {k:List Value->Bool},rH P rs A S k=true->
 ∃vs vs',k vs=true/\lD U vs vs'/\(rs.mapM (λ| .tmp t=>pure (a.tmps.getD t undef) | .cell x t=>do loadVar t (<-asAddr (a.tmps.getD x undef)):ResultVar->Sem Value)).run P w= .ok vs' w:=by
 intro rs;induction rs with
 | nil=>intro k hk;exact⟨[],[],hk,.nil U,rfl⟩
 | cons x rs ih=>
  intro k hk
  have Gn:∀(t:Tmp) (v v':Value),a.tmps.toList[t]? =some v'->a.tmps.getD t undef=v':=λt v v' h=>by
   have:a.tmps[t]? =some v':=by simpa using h
   simp [Rj,this]
  cases x with
  | tmp t=>
   have hk:SC A.tmps t (λv=>rH P rs A S λvs=>k (v::vs))=true:=hk;obtain⟨v,hv,hk⟩:=CZ hk;obtain⟨v',FG,hr⟩:=hA.tmps.get hv;obtain⟨vs,vs',g1,g2,g3⟩:=ih hk;exact⟨_,v'::vs',g1,.cons hr g2,by simp only [Bi,bY,Gn t v v' FG,jU,dU,g3]⟩
  | cell x t=>
   have hk:SC A.tmps x (λa=>KU P t a S λv _=>rH P rs A S λvs=>k (v::vs))=true:=hk;obtain⟨u,hu,hk⟩:=CZ hk;obtain⟨u',hu',hr⟩:=hA.tmps.get hu;obtain⟨v,v',hk,hv,dF⟩:=PW h hk hr;obtain⟨vs,vs',g1,g2,g3⟩:=ih hk;refine⟨_,v'::vs',g1,.cons hv g2,?_⟩
   have Ei:(do loadVar t (<-asAddr u'):Sem Value).run P w= .ok v' w:=by
    rw [<-dF];cases u' with
    | pointer ad=>
     cases ad with
     | none=>simp [Instr.loadAt,Instr.sureAddr]at dF
     | some ad=>rfl
    | _=>simp [Instr.loadAt,Instr.sureAddr]at dF
   simp only [Bi,bY,Gn x u u' hu',jU];rw [bY]at Ei;rw [Ei,dU,g3];rfl
theorem XY{P:Program}{fn:Func}{tmps:Array Value}{R:Ending->World->Prop}:∀{marks:List Nat} {ds:List Deferred} {U:Rn} {S:St} {w:World} {k:St->Bool},KE marks S k=true->Rel P w0 U S w->Sv U marks ds->
 (∀S' w',k S'=true->Rel P w0 U S' w'->uI U w U w'->LeavesInM (NZ none) 0 P fn tmps R [] .returning w')->LeavesInM (NZ none) 0 P fn tmps R ds .returning w:=by
 intro marks;induction marks with
 | nil=>
  intro ds U S w k hk h hD hR;have:ds=[]:=mS (by simpa using hD.1);subst this;exact hR S w hk h (.refl U w)
 | cons d marks ih=>
  intro ds U S w k hk h hD hR;cases ds with
  | nil=>have:=hD.1;simp at this
  | cons e ds=>
   have hk:oV S.h d (λo=>match o with | .defers=>rE S d .dead (KE marks · k) | _=>false)=true:=hk;obtain⟨L,hL,he⟩:=hD.2 0 d rfl;simp only [Ip,Option.some.injEq]at he;subst he;obtain⟨o,ho,hk⟩:=oH hk;split at hk
   ·rw [gR]at hk
    obtain⟨M,g1,g2,g3⟩:=h.GO d _ ho;rw [hL]at g1;injection g1 with g1;subst g1;obtain⟨r1,r2⟩:=h.aJJ (o':= .dead) ho rfl rfl rfl hL g2 rfl (.deferred none) (λ_=>trivial);refine⟨by simp,.inl ⟨L.b,w.putObj L.b (.deferred none),rfl,?_,?_⟩⟩
    ·simp [Instr.takeDeferred,getObj,setObj,Sem.run,g3];rfl
    ·refine ih hk r1 ⟨by have:=hD.1;simpa using this,λk x hx=>hD.2 (k+1) x (by simpa using hx)⟩ λS' w' h1 h2 h3=>hR S' w' h1 h2 (r2.trans h3)
   ·cases hk
theorem aGH{U:Rn}{k:Tm->Bool}{n:Nat}:∀{args dR _pre pre':List Value} {T:Tm},(fS (β:=Nat->Tm->Bool) (λ_ T=>k T) (λa _ ih i T=>sB a T i λT=>cG (Nat.succ i) λi=>ih i T) args pre'.length T)=true->lD U args dR->
 Yh U T (pre'++List.replicate (n-pre'.length) undef)->(pre'.length<=n)->∃T',k T'=true/\Yh U T' (pre'++dR++List.replicate (n-(pre'++dR).length) undef):=by
 intro args;induction args with
 | nil=>
  intro dR pre pre' T hk ha hT hn;cases ha.jP;exact⟨T,hk,by simpa using hT⟩
 | cons a as ih=>
  intro dR pre pre' T hk ha hT hn;obtain⟨a',t',rfl,h1,h2⟩:=ha.cC;rw [aS]at hk;obtain⟨hi,hk⟩:=BT hk;rw [bA]at hk
  have hlt:pre'.length<n:=by
   have:=hT.1;simp at this;omega
  have hs:=hT.set hi h1
  have e:(pre'++List.replicate (n-pre'.length) undef).set pre'.length a'=(pre'++[a'])++List.replicate (n-(pre'++[a']).length) undef:=by
   rw [List.set_append_right _ _ (bI _)];have:n-pre'.length=(n-(pre'++[a']).length)+1:=by simp;omega
   rw [this,Rp];simp
  rw [e]at hs
  have wU:(fS (β:=Nat->Tm->Bool) (λ_ T=>k T) (λa _ ih i T=>sB a T i λT=>cG (Nat.succ i) λi=>ih i T) as (pre'++[a']).length (T.put pre'.length a))=true:=by
   simpa using hk
  obtain⟨T',g1,g2⟩:=ih (_pre:=[]) (pre':=pre'++[a']) wU h2 hs (by simp;omega);exact⟨T',g1,by simpa using g2⟩
theorem En{U:Rn}{k:Tm->Bool}{n:Nat}{args dR:List Value}(hk:aDv n args k=true)(ha:lD U args dR):
 ∃T,k T=true/\Yh U T ((⟨dR⟩:Array Value)++Array.replicate (n-(⟨dR⟩:Array Value).size) undef).toList:=by
 obtain⟨T,h1,h2⟩:=aGH (n:=n) (_pre:=[]) (pre':=[]) hk ha ⟨by simp,λk v hv=>by cases hv⟩ (gF _);exact⟨T,h1,by simpa using h2⟩
theorem Sx(hc:iU E.P w0 E.call)(hr:nH E.P w0 E.round){dr:DrT}(hd:aET E w0 dr)(GT:∀(f:FuncId) (fn:Func),E.P.funcs[f]? =some fn->fn.name≠ "runtime.NumGoroutine"):iU E.P w0 (VH E dr):=by
 intro f args S K U w dR hk h ha;unfold VH at hk;split at hk
 ·rename_i fn hf
  split at hk
  ·rename_i c hb
   refine⟨λw=>?_,?_⟩
   ·have hn:=GT f fn hf
    have hp:(program).run E.P w= .ok E.P w:=rfl;simp [callFunc,hp,hf,hn,hb]
   ·rw [bA]at hk
    obtain⟨ts,hk,Jq⟩:=En hk ha;refine callsIn_of_wp_marks hf hb trivial (XX hc hr hd c (ro:=none) (r:=none) hk ⟨⟨Jq,rfl⟩,h,⟨rfl,by simp⟩⟩ (.inl ⟨rfl,rfl⟩) ?_)
    ·rintro e a' w' ⟨U',ae,A',S',rfl,g1,g2,g3⟩
     have fin:KE A'.marks S' (λS=>rH E.P fn.results.toList A' S λvs=>match vs with | [v]=>K v S | vs=>K (.tuple ⟨vs⟩) S)=true->LeavesInM (NZ none) 0 E.P fn a'.tmps (aBT E.P w0 U w K) a'.defers .returning w':=by
      intro hk;refine XY hk g2.rel g2.marks λS2 w2 hk hrel PY=>?_;obtain⟨vs,vs',hk,GU,dF⟩:=QB hrel g2.act hk
      have aL9:(fn.results.mapM (λ| .tmp t=>pure (a'.tmps.getD t undef) | .cell x t=>do loadVar t (<-asAddr (a'.tmps.getD x undef)):ResultVar->Sem Value)).run E.P w2= .ok ⟨vs'⟩ w2:=by
       rw [<-aBI (xs:=fn.results),List.mapM_toArray];rw [Sem.run_map,dF];rfl
      refine⟨(if h:(⟨vs'⟩:Array Value).size=1 then(⟨vs'⟩:Array Value)[0]else .tuple ⟨vs'⟩),?_,?_⟩
      ·unfold results
       rw [bY];exact(lT (λr=>Result.andThen r _) aL9).trans rfl
      ·refine⟨_,rfl,?_⟩
       match vs,vs',hk,GU with
       | [v],[v'],hk,GU=>exact⟨U',v,S2,hk,GU.head,hrel,g3.trans PY⟩
       | [],[],hk,GU=>exact⟨U',_,S2,hk,.rI (.nil _),hrel,g3.trans PY⟩
       | a::b::l,a2::b2::l2,hk,GU=>
        have:¬(⟨a2::b2::l2⟩:Array Value).size=1:=by simp
        rw [dif_neg this];exact⟨U',_,S2,hk,.rI GU,hrel,g3.trans PY⟩
       | [],_::_,_,GU=>have:=GU.1;simp at this
       | _::_,[],_,GU=>have:=GU.1;simp at this
       | [_],_::_::_,_,GU=>have:=GU.1;simp at this
       | _::_::_,[_],_,GU=>have:=GU.1;simp at this
     cases ae with
     | normal=>exact fin g1
     | ret=>exact fin g1
     | exit id=>cases g1
  ·cases hk
 ·cases hk
end
section
variable{E:Env}{w0:World}
def Yk(ps:List Tmp):List Value->Tm->(Tm->Bool)->Bool:=
 fS (β:=List Value->Tm->(Tm->Bool)->Bool) (λas ts k=>match as with | []=>k ts | _=>false) (λp _ ih as ts k=>match as with | a::as=>sB a ts p λts=>ih as ts k | []=>false) ps
theorem Kb{U:Rn}:∀{ps:List Tmp} {as as':List Value} {ts:Tm} {ts':Array Value} {k:Tm->Bool},Yk ps as ts k=true->lD U as as'->Yh U ts ts'.toList->
 ∃out,k out=true/\as'.length=ps.length/\Yh U out ((ps.zip as').foldl (λtmps (x:Tmp×Value)=>tmps.setIfInBounds x.1 x.2) ts').toList:=by
 intro ps;induction ps with
 | nil=>
  intro as as' ts ts' k hk ha ht;unfold Yk at hk;rw [tD]at hk;split at hk
  ·cases ha.jP;exact⟨ts,hk,rfl,ht⟩
  ·cases hk
 | cons p ps ih=>
  intro as as' ts ts' k hk ha ht;unfold Yk at hk;rw [aS]at hk;split at hk
  ·rename_i a as
   obtain⟨a',t',rfl,h1,h2⟩:=ha.cC;obtain⟨hp,hk⟩:=BT hk;have hk:Yk ps as (ts.put p a) k=true:=hk;obtain⟨out,g1,g2,g3⟩:=ih (ts':=ts'.setIfInBounds p a') hk h2 (by rw [UM];exact ht.set hp h1);exact⟨out,g1,by simp [g2],g3⟩
  ·cases hk
theorem Sy(hc:iU E.P w0 E.call)(hr:nH E.P w0 E.round){dr:DrT}(hd:aET E w0 dr):nH E.P w0 (Bq E dr):=by
 intro l args S K U w dR L hk h ha hL;unfold Bq at hk;obtain⟨o,ho,hk⟩:=oH hk;split at hk
 ·rename_i tmps params assign body st pe
  have hk:Yk params args tmps (λts=>uU E dr (some l) assign ⟨ts,[],E.P.globals.size⟩ S λe A S=>match e with
   | .normal=>oV S.h l λo=>match o with
    | .loop tm ps as bo .ready pe=>rE S l (.loop tm ps as bo .busy pe) λS=>uU E dr (some l) body A S λe _ S=>
     oV S.h l λo=>match o with
      | .loop tm ps as bo _ _=>match e with
       | .normal=>rE S l (.loop tm ps as bo .ready none) λS=>K (.bool true) S
       | .ret=>rE S l (.loop tm ps as bo .done (some .ret)) λS=>K (.bool false) S
       | .exit id=>rE S l (.loop tm ps as bo .done (some (.exit id))) λS=>K (.bool false) S
      | _=>false
    | _=>false
   | _=>false)=true:=hk
  obtain⟨r,hb,hrr,Xe,hpe,Ee,has,hbo,htm⟩:=vA h ho hL;obtain⟨ts,hk,hlen,Jq⟩:=Kb hk ha htm
  have aBV:(Instr.yield L.b ⟨dR⟩).run E.P w= .ok (.round L.b r.fn ((r.params.zip ⟨dR⟩).foldl (λtmps (x:Tmp×Value)=>tmps.setIfInBounds x.1 x.2) r.tmps) r.assign r.body) w:=by
   have hsz:(⟨dR⟩:Array Value).size=r.params.size:=by
    show dR.length=_;rw [hlen,<-Ee];rfl
   have wC:¬(⟨dR⟩:Array Value).size≠r.params.size:=λhh=>hh hsz;simp only [Instr.yield,bY,run_getLoop hrr,dU,if_neg wC,jU]
  refine⟨_,_,_,_,aBV,?_⟩;refine roundIn_of_wpIn trivial ?_;rw [has]
  have aMa:((r.params.zip ⟨dR⟩).foldl (λtmps (x:Tmp×Value)=>tmps.setIfInBounds x.1 x.2) r.tmps)=(params.zip dR).foldl (λtmps (x:Tmp×Value)=>tmps.setIfInBounds x.1 x.2) r.tmps:=by
   rw [<-aBL]
   congr 1
   rw [Array.toList_zip,Ee]
  rw [aMa];refine XX hc hr hd assign (ro:=some L.b) hk ⟨⟨Jq,rfl⟩,h,⟨rfl,by simp⟩⟩ (.inr ⟨l,L,rfl,hL,rfl⟩) ?_
  rintro e a' w' ⟨U1,ae,A1,S1,rfl,g1,g2,g3⟩
  cases ae with
  | exit id=>cases g1
  | ret=>cases g1
  | normal=>
   simp only at g1;obtain⟨o1,ho1,g1⟩:=oH g1;have Sz:=g3.ext _ _ hL;split at g1
   ·rename_i tm ps as bo pe1
    obtain⟨r1,Kc,aGI,Ym,aMb,aMc,aMd,aMe,aMf⟩:=vA g2.rel ho1 Sz;obtain⟨q1,q2,q3⟩:=QA g2.rel ho1 Sz Kc aGI aMc aMd aMe aMf .busy pe1;rw [gR]at g1;refine⟨w'.putObj L.b (.loop {r1 with state:= .busy,pending:=pe1}),?_,?_⟩
    ·have q3':(setObj L.b (.loop {r1 with state:= .busy})).run E.P w'= .ok () (w'.putObj L.b (.loop {r1 with state:= .busy,pending:=pe1})):=by
      rw [<-aMb]at q3 ⊢;exact q3
     simp only [Instr.beginRound,bY,run_getLoop aGI,dU,q3',Ym,jU]
    ·rw [hbo]
     refine XX hc hr hd body (ro:=some L.b) g1 ⟨g2.act,q1,g2.marks⟩ (.inr ⟨l,L,rfl,Sz,rfl⟩) ?_
     rintro e2 a2 w2 ⟨U2,ae2,A2,S2,rfl,k1,k2,k3⟩
     obtain⟨o2,wK,k1⟩:=oH k1;have Sq:=k3.ext _ _ Sz;split at k1
     ·rename_i tm2 ps2 as2 bo2 st2 pe2
      obtain⟨r2,TC,aGJ,aJO,aPV,aMg,aMh,aMi,aMj⟩:=vA k2.rel wK Sq
      have fin:∀(Hj:LoopState) (jump:Option Code) (bv:Bool),K (.bool bv) (S2.set l (.loop tm2 ps2 as2 bo2 Hj jump))=true->bv=jump.isNone->Hj=(if jump.isNone then .ready else .done)->
       ∃v w',(Instr.endRound L.b jump).run E.P w2= .ok v w'/\aBT E.P w0 U w K (.returned v) w':=by
       intro Hj jump bv hK hbv aGK;obtain⟨z1,z2,z3⟩:=QA k2.rel wK Sq TC aGJ aMg aMh aMi aMj Hj jump;refine⟨.bool bv,_,?_,.bool bv,rfl,U2,.bool bv,_,hK,.flat rfl,z1,((g3.trans q2).trans k3).trans z2⟩;rw [aGK]at z3 ⊢;simp only [Instr.endRound,bY,run_getLoop aGJ,dU,z3,jU,hbv]
      cases ae2 with
      | normal=>
       simp only [gR]at k1;exact fin .ready none true k1 rfl rfl
      | ret=>
       simp only [gR]at k1;exact fin .done (some .ret) false k1 rfl rfl
      | exit id=>
       simp only [gR]at k1;exact fin .done (some (.exit id)) false k1 rfl rfl
     ·cases k1
   ·cases g1
 ·cases hk
def Gq(P:Program)(w0:World)(ov:FuncId->Option (List Value->St->VK->Bool)):Prop:=∀f g,ov f=some g->iU P w0 (λf' args S K=>match Nat.beq f' f with | true=>g args S K | false=>false)
theorem aLD(P:Program)(ov:FuncId->Option (List Value->St->VK->Bool))(dr:Env->DrT)(most n:Nat):(env P ov dr most n).P=P:=by cases n<;>rfl
theorem aEU{P:Program}{ov:FuncId->Option (List Value->St->VK->Bool)}{dr:Env->DrT}{most:Nat}(hov:Gq P w0 ov)(GT:∀(f:FuncId) (fn:Func),P.funcs[f]? =some fn->fn.name≠ "runtime.NumGoroutine")
 (hdr:∀E:Env,E.P=P->iU P w0 E.call->nH P w0 E.round->aET E w0 (dr E)):∀n,iU P w0 (env P ov dr most n).call/\nH P w0 (env P ov dr most n).round:=by
 intro n;induction n with
 | zero=>
  refine⟨?_,?_⟩
  ·intro f args S K U w dR hk;cases hk
  ·intro l args S K U w dR L hk;cases hk
 | succ n ih=>
  obtain⟨ih1,ih2⟩:=ih;have hP:=aLD P ov dr most n;have hd:=hdr (env P ov dr most n) hP ih1 ih2;refine⟨λf args S K U w dR hk h ha=>?_,?_⟩
  ·have hk:(match(generalizing:=false) ov f with | some g=>g args S K | none=>VH (env P ov dr most n) (dr (env P ov dr most n)) f args S K)=true:=hk
   split at hk
   ·rename_i g hg
    exact hov f g hg f args S K U w dR (by simpa using hk) h ha
   ·have:=Sx (E:=env P ov dr most n) (by rw [hP];exact ih1) (by rw [hP];exact ih2) hd (by rw [hP];exact GT) f args S K U w dR hk (by rw [hP];exact h) ha
    rw [hP]at this;exact this
  ·have:=Sy (E:=env P ov dr most n) (by rw [hP];exact ih1) (by rw [hP];exact ih2) hd
   rw [hP]at this;exact this
end
section
variable{ro:Option Nat}{P:Program}{ops:Array Oper}{Q:Exit->Act->World->Prop}
def Yl(P:Program)(ops:Array Oper)(i:Nat)(v:Value)(a:Act)(w:World):Prop:=
 ∃o,ops[i]? =some o/\((Region.wanted o (yielded ops a.tmps)=true/\(execOp a.eval o).run P w= .ok (.value v) w)\/(Region.wanted o (yielded ops a.tmps)=false/\v=undef))
def dep(ops:Array Oper)(j i:Nat):Bool:=match ops[j]? with | some o=>o.after.any (λe=>Region.binds .any e&&e.on==i) | none=>false
theorem aEV{j i:Nat}{o:Oper}(hj:ops[j]? =some o)(h:dep ops j i=false):∀e∈o.after,Region.binds .any e=true->e.on≠i:=by
 intro e he hb hi;unfold dep at h;rw [hj]at h;simp only [Array.any_eq_false]at h;obtain⟨k,hk,rfl⟩:=Array.mem_iff_getElem.1 he;have:=h k hk;simp [hb,hi]at this
theorem aEW{i j:Nat}{listed:Array Bool}(hi:listed.getD i false=false)(hj:j∈Region.ready .any ops listed):dep ops j i=false:=by
 obtain⟨_,o,ho,zA⟩:=mem_ready.1 hj;unfold dep;rw [ho];simp only [Array.any_eq_false];intro k hk;have:=zA _ (Array.getElem_mem hk);cases hb:Region.binds .any o.after[k]with
 | false=>simp
 | true=>
  have h2:=this hb;simp only [Jb,beq_iff_eq];intro e;rw [e,hi]at h2;cases h2
def Plain(ops:Array Oper):Prop:=∀(j:Nat) (o:Oper),ops[j]? =some o->(∀cs b,o.op≠ .select cs b)/\∀c,o.op≠ .defer c
theorem Yl.put{i:Nat}{v u:Value}{a:Act}{d:Option Tmp}{w:World}(rY:Plain ops)(h:∀o,ops[i]? =some o->∀t,d=some t->t∉o.looksAt ops):Yl P ops i v (a.put d u) w↔Yl P ops i v a w:=by
 unfold Yl;constructor
 ·rintro⟨o,ho,h1⟩
  rw [wanted_put o a d u (h o ho),execOp_put o (rY i o ho).1 a d u (h o ho)]at h1;exact⟨o,ho,h1⟩
 ·rintro⟨o,ho,h1⟩
  refine⟨o,ho,?_⟩;rw [wanted_put o a d u (h o ho),execOp_put o (rY i o ho).1 a d u (h o ho)];exact h1
theorem Yl.run{i:Nat}{o:Oper}{v:Value}{a:Act}{w:World}(rY:Plain ops)(hi:ops[i]? =some o)(h:Yl P ops i v a w){K:Act->World->Prop}(hk:K (a.put o.dst v) w):wpOpIn (NZ ro) 0 P ops Q i K a w:=by
 obtain⟨o',TD,h⟩:=h;rw [hi]at TD;injection TD with TD;subst TD;unfold wpOpIn;simp only [hi];rcases h with ⟨hw,hr⟩ | ⟨hw,rfl⟩
 ·simp only [hw,if_true,Oper.wpIn,Oper.semAt_eq _ _ _ (rY i o hi).2,hr,Oper.uponIn]
  exact⟨λ_ _=>trivial,hk⟩
 ·simp only [hw,bQ,if_false]
  exact⟨λ_ _=>trivial,hk⟩
def zV(ro:Option Nat)(P:Program)(ops:Array Oper)(Q:Exit->Act->World->Prop):Nat->List (Nat×Value)->Array Bool->Act->World->Prop
 | 0,J,listed,a,w=>(∀p∈J,Yl P ops p.1 p.2 a w)/\Region.ready .any ops listed=[]/\Q .normal a w
 | f+1,J,listed,a,w=>(∀p∈J,Yl P ops p.1 p.2 a w)/\(Region.ready .any ops listed=[]->Q .normal a w)/\
  ∀j∈Region.ready .any ops listed,wpOpIn (NZ ro) 0 P ops Q j (zV ro P ops Q f (J.filter λp=> !dep ops j p.1) (listed.setIfInBounds j true)) a w
theorem zV.yl{f:Nat}{J:List (Nat×Value)}{listed:Array Bool}{a:Act}{w:World}(h:zV ro P ops Q f J listed a w):∀p∈J,Yl P ops p.1 p.2 a w:=by cases f<;>exact h.1
theorem zV.mono:∀{f:Nat} {J J':List (Nat×Value)} {listed:Array Bool} {a:Act} {w:World},zV ro P ops Q f J listed a w->(∀p∈J',p∈J)->zV ro P ops Q f J' listed a w:=by
 intro f;induction f with
 | zero=>intro J J' listed a w h hs;exact⟨λp hp=>h.1 p (hs p hp),h.2⟩
 | succ f ih=>
  intro J J' listed a w h hs;refine⟨λp hp=>h.1 p (hs p hp),h.2.1,λj hj=>wpOpIn_mono (λa w h=>ih h λp hp=>?_) (h.2.2 j hj)⟩;rw [gE]at hp ⊢;exact⟨hs p hp.1,hp.2⟩
theorem zV.any:∀{f:Nat} {J:List (Nat×Value)} {listed:Array Bool} {a:Act} {w:World},zV ro P ops Q f J listed a w->wpAnyIn (NZ ro) 0 P .any ops Q f listed a w:=by
 intro f;induction f with
 | zero=>intro J listed a w h;exact h.2
 | succ f ih=>intro J listed a w h;exact⟨h.2.1,λj hj=>wpOpIn_mono (λa w h=>ih h) (h.2.2 j hj)⟩
theorem Yn(rY:Plain ops){j:Nat}{oi oj:Oper}{v:Value}(hj:ops[j]? =some oj)(hap:oi.apart ops oj=true)(hQ:∀c a w,¬Q (.panic c) a w){K:Act->World->Prop}{a:Act}{w:World}
 (h:wpOpIn (NZ ro) 0 P ops Q j K (a.put oi.dst v) w):wpOpIn (NZ ro) 0 P ops Q j (λa' w'=>K (a'.put oi.dst v) w') a w:=by
 obtain⟨h1,h2,h3⟩:=Oper.apart_spec hap;obtain⟨p1,p2⟩:=rY j oj hj;unfold wpOpIn at*;simp only [hj]at*;rw [wanted_put oj a oi.dst v h1]at h;split
 ·rename_i hw
  simp only [hw,if_true]at h;unfold Oper.wpIn at*;refine⟨λ_ _=>trivial,?_⟩;have h:=h.2;rw [Oper.semAt_eq _ _ _ p2,execOp_put oj p1 a oi.dst v h1]at h;rw [Oper.semAt_eq _ _ _ p2];generalize (execOp a.eval oj).run P w=r at*;cases r with
  | ok x w'=>
   cases x<;>simp only [Oper.uponIn]at h ⊢
   case value u=>rw [<-Act.put_comm a v u h2];exact h
   case skip=>rw [<-Act.put_comm a v undef h2];exact h
   case defer d=>
    rw [<-Act.put_comm _ v undef h2,<-Act.put_defers];exact h
   case enter f args=>
    refine⟨h.1,CallsIn.mono h.2 λe w'' he=>?_⟩;cases e with
    | returned u=>show K _ _;rw [<-Act.put_comm a v u h2];exact he
    | panicked c=>exact absurd he (hQ _ _ _)
    | outgrown=>exact he
   case row row args=>exact⟨h.1,RowsIn.mono h.2 λu w'' he=>by rw [<-Act.put_comm a v u h2];exact he⟩
   case round l f tmps assign body=>
    refine⟨h.1,RoundIn.mono h.2 λe w'' he=>?_⟩;cases e with
    | returned u=>show K _ _;rw [<-Act.put_comm a v u h2];exact he
    | panicked c=>exact absurd he (hQ _ _ _)
    | outgrown=>exact he
  | halt x w'=>
   cases x<;>simp only [Oper.uponIn]at h ⊢
   case panic u=>exact absurd h (hQ _ _ _)
 ·rename_i hw
  simp only [hw]at h;exact⟨λ_ _=>trivial,by rw [<-Act.put_comm a v undef h2];exact h.2⟩
theorem zV.take(rY:Plain ops)(hQ:∀c a w,¬Q (.panic c) a w){i:Nat}{oi:Oper}{v:Value}(hi:ops[i]? =some oi)(IV:∀d,oi.dst=some d->d∉oi.looksAt ops):
 ∀(f:Nat) (J:List (Nat×Value)) (listed:Array Bool) (a:Act) (w:World),
  (∀j oj,ops[j]? =some oj->j≠i->listed.getD j true=false->(∀e∈oj.after,Region.binds .any e=true->e.on≠i)->oi.apart ops oj=true)->
  (∀p∈J,∀o,ops[p.1]? =some o->∀t,oi.dst=some t->t∉o.looksAt ops)->i∈Region.ready .any ops listed->
  zV ro P ops Q f ((i,v)::J) (listed.setIfInBounds i true) (a.put oi.dst v) w->zV ro P ops Q (f+1) J listed a w:=by
 intro f;have aLE:∀(a:Act) (w:World),Yl P ops i v (a.put oi.dst v) w->Yl P ops i v a w:=λa w h=>(Yl.put rY (λo ho t ht=>by rw [hi]at ho;injection ho with ho;subst ho;exact IV t ht)).1 h;induction f with
 | zero=>
  intro J listed a w ES hJ hr H;have hY:=H.yl;refine⟨λp hp=>(Yl.put rY (hJ p hp)).1 (hY p (.tail _ hp)),λh=>(by rw [h]at hr;cases hr),λj hj=>?_⟩;by_cases Sl:j=i
  ·subst Sl
   exact Yl.run rY hi (aLE a w (hY _ (.head _))) (zV.mono H λp hp=> .tail _ (gE.1 hp).1)
  ·have:=ready_mono hj Sl
   rw [H.2.1]at this;cases this
 | succ f ih=>
  intro J listed a w ES hJ hr H;have hY:=H.yl;refine⟨λp hp=>(Yl.put rY (hJ p hp)).1 (hY p (.tail _ hp)),λh=>(by rw [h]at hr;cases hr),λj hj=>?_⟩;by_cases Sl:j=i
  ·subst Sl
   exact Yl.run rY hi (aLE a w (hY _ (.head _))) (zV.mono H λp hp=> .tail _ (gE.1 hp).1)
  ·have h1:=H.2.2 j (ready_mono hj Sl)
   obtain⟨aOk,oj,hoj,zA⟩:=mem_ready.1 hj
   have aPW:listed.getD i false=false:=by
    have h0:=(mem_ready.1 hr).1;rcases zJ i listed.size with h' | h'
    ·simp [h']at h0 ⊢;exact h0
    ·simp [aBD h']at h0
   have aJP:=aEW aPW hj;have h2:=Yn rY hoj (ES j oj hoj Sl aOk (aEV hoj aJP)) hQ h1;refine wpOpIn_mono (λa' w' h3=>ih _ (listed.setIfInBounds j true) a' w' (λk ok hk hki hun IF=>?_) (λp hp=>hJ p (gE.1 hp).1) (ready_mono hr (dB Sl)) ?_) h2
   ·refine ES k ok hk hki ?_ IF
    by_cases hjk:j=k
    ·subst hjk;exact aOk
    ·rw [getD_set_ne true hjk]at hun;exact hun
   ·rw [Array.setIfInBounds_comm _ _ Sl]
    rw [List.filter_cons_of_pos (by simp [aJP])]at h3;exact h3
end
section
variable{E:Env}{w0:World}{U:Rn}{S:St}{w:World}
def pY(P:Program)(o:Oper):Bool:=match o.op with
 | .move _ | .assign _ | .pick .. | .build .. | .nilCheck _ | .binOp .. | .unOp .. | .makeInterface .. | .makeFunc .. | .slice .. | .fieldAddr .. | .field .. | .indexAddr .. | .index .. | .extract .. =>true
 | .convert _ d _=>match P.underlying d with | some (.int _)=>true | _=>false
 | .call c=>match c.callee with
  | .builtin .len=>match c.argTypes.toList with | t::_=>(match P.underlying t with | some (.slice _) | some .string=>true | _=>false) | []=>false
  | _=>false
 | _=>false
def zW(o:Oper):Bool:=match o.op with
 | .load .. | .lookup .. =>true
 | _=>false
def OQ(P:Program)(U:Rn)(S:St)(K:VK)(s:Sem Go.Next):Prop:=∃v v',K v S=true/\VR U v v'/\∀w,s.run P w= .ok (.value v') w
theorem OQ.mk{P:Program}{K:VK}{s:Sem Value}{v v':Value}(hk:K v S=true)(hv:VR U v v')(hr:∀w,s.run P w= .ok v' w):OQ P U S K (do pure (.value (<-s))):=
 ⟨v,v',hk,hv,λw=>by rw [bY,hr];rfl⟩
theorem MU(h:Rel E.P w0 U S w){A:aO}{a:Act}(hA:xX E.P U A a){o:Oper}(hp:pY E.P o=true){K:VK}(hk:wW E o A S K=true):OQ E.P U S K (execOp a.eval o):=by
 unfold wW at hk;unfold execOp;unfold pY at hp;split at hk<;>first | (cases hk;done) | skip
 all_goals (rename_i OP;rw [OP]at hp;first | (cases hp;done) | skip)
 all_goals (simp only [OP])
 ·obtain⟨v,hk,hv⟩:=aK h hA hk
  exact⟨v,_,hk,hv,λw=>rfl⟩
 ·obtain⟨v,hk,hv⟩:=aK h hA hk
  exact⟨v,_,hk,hv,λw=>rfl⟩
 ·obtain⟨c,hk,hc⟩:=aK h hA hk
  obtain⟨x,hk,hx⟩:=aK h hA hk;obtain⟨y,hk,hy⟩:=aK h hA hk;split at hk
  ·have:=hc.of_flat rfl
   exact⟨_,_,hk,hx,λw=>by simp [this,asBool]⟩
  ·have:=hc.of_flat rfl
   exact⟨_,_,hk,hy,λw=>by simp [this,asBool]⟩
  ·cases hk
 ·obtain⟨v,v',hk,hv,hr⟩:=XP h hA hk
  exact OQ.mk hk hv hr
 ·obtain⟨x,hk,hx⟩:=aK h hA hk
  split at hk
  ·rename_i ad
   obtain⟨i,off,sp⟩:=ad;have hx2:=hx;obtain⟨_,L,hL,e⟩:=hx.FF;rw [e]at hx2 ⊢;exact⟨_,_,hk,hx2,λw=>rfl⟩
  ·rename_i f x1 x2
   generalize hg:a.eval _=v' at hx ⊢;cases hx with
   | flat hf=>simp [bE]at hf
   | func h1 h2 h3 h4=>exact⟨_,_,hk,.func h1 h2 h3 h4,λw=>rfl⟩
  ·rename_i f x1 x2
   generalize hg:a.eval _=v' at hx ⊢;cases hx with
   | flat hf=>simp [bE]at hf
   | yield h1=>exact⟨_,_,hk,.yield h1,λw=>rfl⟩
  ·rename_i s t x1
   generalize hg:a.eval _=v' at hx ⊢;cases hx with
   | flat hf=>simp [bE]at hf
   | GS h1=>
    cases h1 with
    | flat hf=>simp [bE]at hf
    | iface h2=>
     split at hk
     ·rename_i g hm
      exact⟨_,_,hk,.GS (.iface h2),λw=>IU hm _ w⟩
     ·cases hk
  ·rename_i t x1
   generalize hg:a.eval _=v' at hx ⊢;cases hx with
   | flat hf=>simp [bE]at hf
   | iface h1=>exact⟨_,_,hk,.iface h1,λw=>rfl⟩
  ·cases hk
 ·obtain⟨x,hk,hx⟩:=aK h hA hk
  obtain⟨y,hk,hy⟩:=aK h hA hk;obtain⟨v,hk,hf,hr⟩:=Jv hk hx hy;exact OQ.mk hk (.flat hf) (hr _ _)
 ·obtain⟨x,hk,hx⟩:=aK h hA hk
  obtain⟨v,hk,hf,hr⟩:=Pn (P:=E.P) hk hx;exact OQ.mk hk (.flat hf) hr
 ·
   rename_i s d x;obtain⟨x,hk,hx⟩:=aK h hA hk;simp only at hp;split at hp
   ·rename_i kd hd
    unfold Ea at hk;split at hk
    ·rename_i kk n
     rw [hx.of_flat rfl];split at hk
     ·rename_i dd k hs hd2
      unfold KD at hk;rw [nG,PL]at hk;refine OQ.mk hk (.flat rfl) λw=>?_;simp [convert,run_underlying hs,run_underlying hd2,Conv.intToInt]
     ·cases hk
    ·split at hk
     ·rename_i h1 h2;rw [hd]at h2;cases h2
     ·rename_i h1 h2;rw [hd]at h2;cases h2
     ·cases hk
    ·split at hk
     ·rename_i h1 h2;rw [hd]at h2;cases h2
     ·cases hk
    ·split at hk
     ·cases hk
     ·rename_i h1 h2 _;rw [hd]at h2;cases h2
     ·cases hk
    ·cases hk
   ·cases hp
 ·obtain⟨x,hk,hx⟩:=aK h hA hk
  split at hk
  ·cases hk
  ·rename_i d hd hu
   refine OQ.mk hk (.iface hx) λw=>?_;simp only [Instr.makeInterface,bY,run_underlying hu,dU];cases d<;>first | rfl | exact absurd hu (hd _)
  ·cases hk
 ·split at hk
  ·obtain⟨x,hk,hx⟩:=yA h hA hk
   obtain⟨y,hk,hy⟩:=yA h hA hk;have hx:=hx.map_toArray;have hy:=hy.map_toArray;exact OQ.mk hk (.func hx.1 hy.1 hx.2 hy.2) λw=>rfl
  ·split at hk
   ·rename_i x VJ hx2
    obtain⟨v,hk,hv⟩:=aK h hA hk;have e1:=iR.1 (show _=(⟨[x]⟩:Array Operand).toList from VJ);have e2:=iR.1 (show _=(⟨[]⟩:Array Operand).toList from hx2);subst e1 e2;exact OQ.mk hk (.GS hv) λw=>by simp [Instr.makeFunc]
   ·cases hk
  ·cases hk
 ·rename_i t x lo hi mx
  have hmh:mx.map a.eval=none\/hi.map a.eval≠none:=by
   cases mx with
   | none=>exact .inl rfl
   | some m=>cases hi with
    | none=>exact absurd hk (by simp)
    | some _=>exact .inr (by simp)
  replace hk:(tC A x λx=>VC A lo λlo=>VC A hi λhi=>VC A mx λmx=>sJ E.P t x lo hi mx S λv=>K v S)=true:=by
   cases mx<;>cases hi<;>first | exact hk | cases hk
  obtain⟨x,hk,hx⟩:=aK h hA hk;obtain⟨lo,hk,hlo⟩:=BU h hA hk;obtain⟨hi,hk,hhi⟩:=BU h hA hk;obtain⟨mx,hk,hmx⟩:=BU h hA hk
  have hO:∀(x:Option Operand) (v:Option Value),(v=none/\x=none\/∃u y,v=some u/\x=some y/\VR U u (a.eval y))->Gp U v (x.map a.eval):=by
   intro x v hv;rcases hv with ⟨rfl,rfl⟩ | ⟨u,y,rfl,rfl,hr⟩
   ·exact .inl ⟨rfl,rfl⟩
   ·exact .inr ⟨u,_,rfl,rfl,hr⟩
  obtain⟨v,v',hk,hv,hr⟩:=XW h hk hx (hO _ _ hlo) (hO _ _ hhi) (hO _ _ hmx) hmh;exact OQ.mk hk hv hr
 ·obtain⟨x,hk,hx⟩:=aK h hA hk
  obtain⟨v,v',hk,hv,hr⟩:=KZ hk hx;exact OQ.mk hk hv hr
 ·obtain⟨x,hk,hx⟩:=aK h hA hk
  obtain⟨v,v',hk,hv,hr⟩:=XM hk hx;exact OQ.mk hk hv hr
 ·obtain⟨x,hk,hx⟩:=aK h hA hk
  obtain⟨y,hk,hy⟩:=aK h hA hk;obtain⟨v,v',hk,hv,hr⟩:=KY hk hx hy;exact OQ.mk hk hv hr
 ·obtain⟨x,hk,hx⟩:=aK h hA hk
  obtain⟨y,hk,hy⟩:=aK h hA hk;obtain⟨v,v',hk,hv,hr⟩:=XN hk hx hy;exact OQ.mk hk hv hr
 ·rename_i tt ix
  obtain⟨x,hk,hx⟩:=aK h hA hk;split at hk
  ·obtain⟨vs',e,hl⟩:=hx.LF
   obtain⟨v,hv,hk⟩:=LA hk;obtain⟨v',FG,hr⟩:=hl.get hv;refine OQ.mk hk hr λw=>?_;rw [e];have:vs'[ix]? =some v':=by simpa using FG
   simp [Instr.extract,this]
  ·cases hk
 ·
   rename_i c;simp only at hp;split at hp
   ·rename_i hb
    split at hp
    ·rename_i t rest Jq
     have h0:c.argTypes[0]? =some t:=by have:=lT (·[0]?) Jq;simpa using this
     unfold mO at hk;obtain⟨args,hk,NY⟩:=yA h hA hk;rw [hb]at hk;simp only at hk
     have e2:(do let d<-resolve a.eval c o.type;invoke d.target d.args:Sem Go.Next)=(do pure (.value (<-Builtin.len_ c.argTypes o.type (c.args.map a.eval)))):=by
      unfold resolve;rw [hb];rfl
     rw [e2];have e:(c.args.map a.eval)=⟨c.args.toList.map a.eval⟩:=by apply iR.1;simp
     rw [e];generalize c.args.toList.map a.eval=dR at NY;unfold nY at hk;split at hk<;>first | (cases hk;done) | (rename_i hbb;cases hbb;done) | skip
     rename_i x _;obtain⟨x',t',rfl,hx,ht'⟩:=NY.cC;cases ht'.jP;rw [Jq]at hk;simp only at hk;split at hk
     ·rename_i base n cc
      split at hk
      ·rename_i e he
       have hu:=gI he;refine OQ.mk hk (v':= .int .i64 (n:Int)) .nat λw=>?_;have main:∀b' c',(Builtin.len_ c.argTypes o.type ⟨[.slice b' n c']⟩).run E.P w= .ok (.int .i64 (n:Int)) w:=λb' c'=>by simp [Builtin.len_,h0,run_underlying hu,goInt]
       cases hx with
       | flat _=>exact main _ _
       | slice _=>exact main _ _
       | oG _ _ _ _ _=>exact main _ _
       | zQ=>exact main _ _
       | zR _=>exact main _ _
      ·cases hk
     ·rename_i s
      rw [hx.of_flat rfl];split at hk
      ·rename_i hu
       rw [kM]at hk;refine OQ.mk hk (v':= .int .i64 (s.data.toList.length:Int)) .nat λw=>?_;simp [Builtin.len_,h0,run_underlying hu,goInt]
      ·cases hk
     ·split at hk
      ·rename_i q hm
       have hu:=yL hm;rw [hu]at hp;cases hp
      ·cases hk
     ·split at hk
      ·rename_i n e hu
       rw [hu]at hp;cases hp
      ·cases hk
     ·cases hk
    ·cases hp
   ·cases hp
theorem XZ(h:Rel E.P w0 U S w){A:aO}{a:Act}(hA:xX E.P U A a){o:Oper}(hp:zW o=true){K:VK}(hk:wW E o A S K=true):
 ∃v v',K v S=true/\VR U v v'/\(execOp a.eval o).run E.P w= .ok (.value v') w:=by
 unfold wW at hk;unfold execOp;unfold zW at hp;split at hk<;>first | (cases hk;done) | skip
 all_goals (rename_i OP;rw [OP]at hp;first | (cases hp;done) | skip)
 all_goals (simp only [OP])
 ·obtain⟨x,hk,hx⟩:=aK h hA hk
  obtain⟨v,v',hk,hv,hr⟩:=PW h hk hx;exact⟨v,v',hk,hv,by rw [bY,hr];rfl⟩
 ·obtain⟨x,hk,hx⟩:=aK h hA hk
  obtain⟨y,hk,hy⟩:=aK h hA hk;obtain⟨v,v',hk,hv,hr⟩:=TV h hk hx hy;exact⟨v,v',hk,hv,by rw [bY,hr];rfl⟩
end
def YA:Value->Value->Bool
 | .bool a,.bool b=>a==b
 | .int j a,.int k b=>BN j k&&Hg a b
 | .string a,.string b=>Gj a.data.toList b.data.toList
 | .pointer none,.pointer none | .nilFunc,.nilFunc | .nilIface,.nilIface | .map none,.map none=>true
 | .pointer (some ⟨i,o,none⟩),.pointer (some ⟨j,p,none⟩)=>Nat.beq i j&&Nat.beq o p
 | .slice none n c,.slice none m d=>Nat.beq n m&&Nat.beq c d
 | .slice (some ⟨i,o,none⟩) n c,.slice (some ⟨j,p,none⟩) m d=>(Nat.beq i j&&Nat.beq o p)&&(Nat.beq n m&&Nat.beq c d)
 | .map (some i),.map (some j)=>Nat.beq i j
 | .slice (some ⟨i,o,some 0⟩) n c,.slice (some ⟨j,p,some 0⟩) m d=>(Nat.beq i j&&Nat.beq o p)&&(Nat.beq n m&&Nat.beq c d)
 | .slice (some ⟨i,o,some (s+2)⟩) _ _,.slice (some ⟨j,p,some (t+2)⟩) _ _=>(Nat.beq i j&&Nat.beq o p)&&Nat.beq s t
 | .func (.func f) ⟨[]⟩ ⟨[]⟩,.func (.func g) ⟨[]⟩ ⟨[]⟩=>Nat.beq f g
 | .func (.func f) ⟨[]⟩ ⟨[.pointer (some ⟨i,o,none⟩)]⟩,.func (.func g) ⟨[]⟩ ⟨[.pointer (some ⟨j,p,none⟩)]⟩=>Nat.beq f g&&(Nat.beq i j&&Nat.beq o p)
 | .func (.yield i) ⟨[]⟩ ⟨[]⟩,.func (.yield j) ⟨[]⟩ ⟨[]⟩=>Nat.beq i j
 | _,_=>false
def FM(f:Value->Value->Bool):List Value->List Value->Bool
 | [],[]=>true
 | a::l,b::m=>f a b&&FM f l m
 | _,_=>false
def Eo:Nat->Value->Value->Bool
 | 0,a,b=>YA a b
 | n+1,.func (.func f) ⟨a⟩ ⟨c⟩,.func (.func g) ⟨b⟩ ⟨d⟩=>Nat.beq f g&&(FM (Eo n) a b&&FM (Eo n) c d)
 | _+1,a,b=>YA a b
def Yo(a b:Value):Bool:=Eo 3 a b
def Pp:List Value->List Value->Bool
 | [],[]=>true
 | a::l,b::m=>Yo a b&&Pp l m
 | _,_=>false
def Ep:Value->Value->Bool
 | .agg a,.agg b=>Pp a.toList b.toList
 | a,b=>Yo a b
def Bz:List Value->List Value->Bool
 | [],[]=>true
 | a::l,b::m=>Ep a b&&Bz l m
 | _,_=>false
def OB:Value->Value->Bool
 | .tuple a,.tuple b=>Bz a.toList b.toList
 | a,b=>Ep a b
theorem VR.aLF{U:Rn}{f:FuncId}{x:Value}(h:VR U (.func (.func f) ⟨[]⟩ ⟨[]⟩) x):x= .func (.func f) ⟨[]⟩ ⟨[]⟩:=by
 cases h with
 | flat h=>simp [bE]at h
 | @func _ _ a' _ c' ha hc _ _=>
  rw [aBy (xs:=a') (by simpa using ha.symm),aBy (xs:=c') (by simpa using hc.symm)]
theorem VR.aLG{U:Rn}{f:FuncId}{i o:Nat}{x:Value}(h:VR U (.func (.func f) ⟨[]⟩ ⟨[.pointer (some ⟨i,o,none⟩)]⟩) x):∃L,U i=some L/\x= .func (.func f) ⟨[]⟩ ⟨[.pointer (some ⟨L.b,L.s+o,none⟩)]⟩:=by
 cases h with
 | flat h=>simp [bE]at h
 | @func _ _ a' _ c' ha hc _ h2=>
  obtain⟨l⟩:=c'
  match l,hc,h2 with
  | [p],_,h2=>
   have hp:=h2 0 _ _ rfl rfl;obtain⟨_,L,hL,rfl⟩:=hp.FF;exact⟨L,hL,by rw [aBy (xs:=a') (by simpa using ha.symm)]⟩
theorem VR.Pq{U:Rn}{l:Nat}{x:Value}(h:VR U (.func (.yield l) ⟨[]⟩ ⟨[]⟩) x):∃L,U l=some L/\x= .func (.yield L.b) #[] #[]:=by
 cases h with
 | flat h=>simp [bE]at h
 | yield h=>exact⟨_,h,rfl⟩
theorem Er{U:Rn}{a b x y:Value}(h:YA a b=true)(hx:VR U a x)(hy:VR U b y):x=y:=by
 unfold YA at h;split at h
 ·have e:=eq_of_beq h;subst e;rw [hx.of_flat rfl,hy.of_flat rfl]
 ·rw [bW]at h
  have e1:=GP h.1;subst e1;have e2:=h.2;rw [uV]at e2;have e2:=eq_of_beq e2;subst e2;rw [hx.of_flat rfl,hy.of_flat rfl]
 ·rw [FJ]at h
  have e:=eq_of_beq h;rw [hx.of_flat rfl,hy.of_flat rfl,ByteArray.ext (iR.1 e)]
 ·rw [hx.of_flat rfl,hy.of_flat rfl]
 ·rw [hx.of_flat rfl,hy.of_flat rfl]
 ·rw [hx.of_flat rfl,hy.of_flat rfl]
 ·rw [hx.of_flat rfl,hy.of_flat rfl]
 ·rw [bW]at h
  have e1:=cT h.1;have e2:=cT h.2;subst e1 e2;obtain⟨_,L,hL,rfl⟩:=hx.FF;obtain⟨_,M,hM,rfl⟩:=hy.FF;rw [hL]at hM;injection hM with hM;subst hM;rfl
 ·rw [bW]at h
  have e1:=cT h.1;have e2:=cT h.2;subst e1 e2;rw [hx.of_flat rfl,hy.of_flat rfl]
 ·simp only [bW]at h
  have e1:=cT h.1.1;have e2:=cT h.1.2;have e3:=cT h.2.1;have e4:=cT h.2.2;subst e1 e2 e3 e4;rcases hx.jC with ⟨L,c1,hL,rfl,⟨_,rfl⟩ | ⟨hs,_⟩⟩ | ⟨⟨_,hs⟩,_⟩
  ·rcases hy.jC with ⟨M,c2,hM,rfl,⟨_,rfl⟩ | ⟨hs,_⟩⟩ | ⟨⟨_,hs⟩,_⟩
   ·rw [hL]at hM;injection hM with hM;subst hM;rfl
   ·cases hs
   ·cases hs
  ·cases hs
  ·cases hs
 ·have e1:=cT h
  subst e1;obtain⟨L,hL,rfl⟩:=hx.FI;obtain⟨M,hM,rfl⟩:=hy.FI;rw [hL]at hM;injection hM with hM;subst hM;rfl
 ·simp only [bW]at h
  have e1:=cT h.1.1;have e2:=cT h.1.2;have e3:=cT h.2.1;have e4:=cT h.2.2;subst e1 e2 e3 e4;rcases hx.jC with ⟨L,c1,hL,rfl,⟨hs,_⟩ | ⟨_,_,_,q1,q2⟩⟩ | ⟨⟨_,hs⟩,_⟩
  ·cases hs
  ·rcases hy.jC with ⟨M,c2,hM,rfl,⟨hs,_⟩ | ⟨_,_,_,q3,q4⟩⟩ | ⟨⟨_,hs⟩,_⟩
   ·cases hs
   ·rw [hL]at hM;injection hM with hM;subst hM
    have:c1*L.m=c2*L.m:=by omega
    rw [Nat.eq_of_mul_eq_mul_right q2 this]
   ·cases hs
  ·cases hs
 ·simp only [bW]at h
  have e1:=cT h.1.1;have e2:=cT h.1.2;have e3:=cT h.2;subst e1 e2 e3;cases hx with
  | flat h=>simp [bE]at h
  | zR hs=>cases hy with
   | flat h=>simp [bE]at h
   | zR Hl=>rw [hs,Hl]
 ·have e1:=cT h
  subst e1;rw [hx.aLF,hy.aLF]
 ·simp only [bW]at h
  have e1:=cT h.1;have e2:=cT h.2.1;have e3:=cT h.2.2;subst e1 e2 e3;obtain⟨L,hL,rfl⟩:=hx.aLG;obtain⟨M,hM,rfl⟩:=hy.aLG;rw [hL]at hM;injection hM with hM;subst hM;rfl
 ·have e1:=cT h
  subst e1;obtain⟨L,hL,rfl⟩:=hx.Pq;obtain⟨M,hM,rfl⟩:=hy.Pq;rw [hL]at hM;injection hM with hM;subst hM;rfl
 ·cases h
theorem TZ{U:Rn}{f:Value->Value->Bool}(hf:∀{a b x y:Value},f a b=true->VR U a x->VR U b y->x=y):∀{a b x y:List Value},FM f a b=true->lD U a x->lD U b y->x=y:=by
 intro a;induction a with
 | nil=>
  intro b x y h hx hy;cases b with
  | nil=>rw [hx.jP,hy.jP]
  | cons b l=>cases h
 | cons a l ih=>
  intro b x y h hx hy;cases b with
  | nil=>cases h
  | cons b m=>
   simp only [FM,bW]at h;obtain⟨a',l',rfl,h1,h2⟩:=hx.cC;obtain⟨b',m',rfl,h3,h4⟩:=hy.cC;rw [hf h.1 h1 h3,ih h.2 h2 h4]
theorem VR.Yp{U:Rn}{f:FuncId}{a c:List Value}{x:Value}(h:VR U (.func (.func f) ⟨a⟩ ⟨c⟩) x):∃a' c',x= .func (.func f) ⟨a'⟩ ⟨c'⟩/\lD U a a'/\lD U c c':=by
 cases h with
 | flat h=>simp [bE]at h
 | @func _ _ a' _ c' ha hc h1 h2=>exact⟨a'.toList,c'.toList,rfl,⟨by simpa using ha,h1⟩,⟨by simpa using hc,h2⟩⟩
theorem Yq{U:Rn}:∀(n:Nat) {a b x y:Value},Eo n a b=true->VR U a x->VR U b y->x=y:=by
 intro n;induction n with
 | zero=>intro a b x y h hx hy;exact Er h hx hy
 | succ n ih=>
  intro a b x y h hx hy;unfold Eo at h;split at h
  ·rename_i heq;exact absurd heq (by simp)
  ·simp only [bW]at h
   have e1:=cT h.1;subst e1;rename_i m _ _ _ _ _ _ hn;injection hn with hn;subst hn;obtain⟨a1,c1,rfl,h1,h2⟩:=hx.Yp;obtain⟨a2,c2,rfl,h3,h4⟩:=hy.Yp;rw [TZ (ih) h.2.1 h1 h3,TZ (ih) h.2.2 h2 h4]
  ·exact Er h hx hy
theorem Es{U:Rn}{a b x y:Value}(h:Yo a b=true)(hx:VR U a x)(hy:VR U b y):x=y:=Yq 3 h hx hy
theorem Yr{U:Rn}:∀{a b x y:List Value},Pp a b=true->lD U a x->lD U b y->x=y:=by
 intro a;induction a with
 | nil=>
  intro b x y h hx hy;cases b with
  | nil=>rw [hx.jP,hy.jP]
  | cons b l=>cases h
 | cons a l ih=>
  intro b x y h hx hy;cases b with
  | nil=>cases h
  | cons b m=>
   simp only [Pp,bW]at h;obtain⟨a',l',rfl,h1,h2⟩:=hx.cC;obtain⟨b',m',rfl,h3,h4⟩:=hy.cC;rw [Es h.1 h1 h3,ih h.2 h2 h4]
theorem IW{U:Rn}{a b x y:Value}(h:Ep a b=true)(hx:VR U a x)(hy:VR U b y):x=y:=by
 unfold Ep at h;split at h
 ·obtain⟨x',rfl,h1⟩:=hx.IN
  obtain⟨y',rfl,h2⟩:=hy.IN;rw [iR.1 (Yr h h1 h2)]
 ·exact Es h hx hy
theorem Tc{U:Rn}:∀{a b x y:List Value},Bz a b=true->lD U a x->lD U b y->x=y:=by
 intro a;induction a with
 | nil=>
  intro b x y h hx hy;cases b with
  | nil=>rw [hx.jP,hy.jP]
  | cons b l=>cases h
 | cons a l ih=>
  intro b x y h hx hy;cases b with
  | nil=>cases h
  | cons b m=>
   simp only [Bz,bW]at h;obtain⟨a',l',rfl,h1,h2⟩:=hx.cC;obtain⟨b',m',rfl,h3,h4⟩:=hy.cC;rw [IW h.1 h1 h3,ih h.2 h2 h4]
theorem Ys{U:Rn}{a b x y:Value}(h:OB a b=true)(hx:VR U a x)(hy:VR U b y):x=y:=by
 unfold OB at h;split at h
 ·obtain⟨x',rfl,h1⟩:=hx.LF
  obtain⟨y',rfl,h2⟩:=hy.LF;rw [iR.1 (Tc h h1 h2)]
 ·exact IW h hx hy
def neutral(P:Program)(o:Oper):Bool:=pY P o || zW o
def leaves(ops:Array Oper)(o:Oper)(p:Nat):Bool:=match ops[p]?,o.dst with
 | some q,some d=> !(q.looksAt ops).contains d&&q.dst != some d
 | _,_=>true
def BV(ops:Array Oper)(o:Oper):Bool:=match o.dst with | some d=> !(o.looksAt ops).contains d | none=>true
def jD(ops:Array Oper)(p:Nat):Bool:=match ops[p]? with | some q=>zW q&&q.dst.isSome | none=>false
def aGN(P:Program)(ops:Array Oper):Nat->Array Bool->List Nat->Option (List (Nat×List Nat))
 | 0,listed,_=>match Region.ready .any ops listed with | []=>some [] | _=>none
 | f+1,listed,taken=>
  match Region.ready .any ops listed with
  | []=>some []
  | rs=>match rs.find? (λi=>match ops[i]? with | some o=>neutral P o | none=>false)with
   | some i=>match ops[i]? with
    | some o=>match Region.free .any ops listed i&&BV ops o&&taken.all (leaves ops o)&&(pY P o || jD ops i)with
     | true=>(aGN P ops f (listed.setIfInBounds i true) (i::taken)).map ((i,[]):: ·)
     | false=>none
    | none=>none
   | none=>match rs with
    | [i]=>match ops[i]? with
     | some o=>match taken.all (leaves ops o)with
      | true=>(aGN P ops f (listed.setIfInBounds i true) (taken.filter λp=> !dep ops i p)).map ((i,(taken.filter λp=> !dep ops i p).filter (jD ops)):: ·)
      | false=>none
     | none=>none
    | _=>none
def GV(ops:Array Oper):Bool:=ops.toList.all λo=>match o.op with | .select .. | .defer _=>false | _=>true
def wL(E:Env)(ops:Array Oper)(A:aO)(S:St)(l:List Nat)(k:Bool):Bool:=
 fS (β:=Bool) k (λi _ ih=>match ops[i]? with
  | some o=>match o.dst with
   | some d=>SC A.tmps d λu=>zP ops o A λb=>dL b (wW E o A S λv _=>match OB v u with | true=>ih | false=>false) (match u with | .tuple ⟨[]⟩=>ih | _=>false)
   | none=>false
  | none=>false) l
section
variable{E:Env}{w0:World}{ops:Array Oper}
theorem UA(h:GV ops=true):Plain ops:=by
 intro j o ho
 have hm:o∈ops.toList:=by
  have:ops.toList[j]? =some o:=by simpa using ho
  exact wI this
 have:=dJ.1 h o hm;constructor
 ·intro cs b e;rw [e]at this;cases this
 ·intro c e;rw [e]at this;cases this
theorem vB{o:Oper}{p:Nat}(h:leaves ops o p=true){q:Oper}(hq:ops[p]? =some q):∀d,o.dst=some d->d∉q.looksAt ops/\q.dst≠some d:=by
 intro d hd;unfold leaves at h;rw [hq,hd]at h;simpa using h
theorem QC{o:Oper}(h:BV ops o=true):∀d,o.dst=some d->d∉o.looksAt ops:=by
 intro d hd;unfold BV at h;rw [hd]at h;simpa using h
end
section
variable{E:Env}{w0:World}{ops:Array Oper}
def Kn(P:Program)(ops:Array Oper)(a:Act)(w:World)(p:Nat×Value):Prop:=
 (∃o,ops[p.1]? =some o/\pY P o=true/\∀w,Yl P ops p.1 p.2 a w)\/(∃o d,ops[p.1]? =some o/\zW o=true/\Yl P ops p.1 p.2 a w/\o.dst=some d/\∀u,a.tmps.toList[d]? =some u->u=p.2)
theorem Kn.yl{P:Program}{a:Act}{w:World}{p:Nat×Value}(h:Kn P ops a w p):Yl P ops p.1 p.2 a w:=by
 rcases h with ⟨o,_,_,h⟩ | ⟨o,d,_,_,h,_⟩
 ·exact h w
 ·exact h
theorem sC{a:Act}{dst:Option Tmp}{v:Value}{d:Tmp}(h:dst≠some d):(a.put dst v).tmps.toList[d]? =a.tmps.toList[d]? :=by
 cases dst with
 | none=>rfl
 | some e=>
  have wC:e≠d:=λq=>h (by rw [q]);show(a.tmps.setIfInBounds e v).toList[d]? =_;rw [UM,UO wC]
theorem CO{a:Act}{v:Value}{d:Tmp}:∀u,(a.put (some d) v).tmps.toList[d]? =some u->u=v:=by
 intro u hu;have hu:(a.tmps.setIfInBounds d v).toList[d]? =some u:=hu;rw [UM,List.getElem?_set_self']at hu;cases hx:a.tmps.toList[d]? with
 | none=>rw [hx]at hu;cases hu
 | some y=>rw [hx]at hu;simp at hu;exact hu.symm
theorem VO{U:Rn}{A:aO}{a:Act}{S:St}{w:World}(hs:SR E.P w0 U A a S w):∀{l:List Nat} {k:Bool},wL E ops A S l k=true->(∀i∈l,jD ops i=true)->
 k=true/\∀i∈l,∃o d u',ops[i]? =some o/\o.dst=some d/\a.tmps.toList[d]? =some u'/\Yl E.P ops i u' a w:=by
 intro l;induction l with
 | nil=>intro k hk _;exact⟨hk,by simp⟩
 | cons i l ih=>
  intro k hk hl;unfold wL at hk;rw [aS]at hk;split at hk
  ·rename_i o ho
   split at hk
   ·rename_i d hd
    obtain⟨u,hu,hk⟩:=CZ hk;obtain⟨u',hu',hr⟩:=hs.act.tmps.get hu;have hk:=MS hs.act hk
    have Yt:zW o=true:=by
     have:=hl i (.head _);unfold jD at this;rw [ho]at this;simp only [bW]at this;exact this.1
    have uW:wL E ops A S l k=true/\Yl E.P ops i u' a w:=by
     cases hw:Region.wanted o (yielded ops a.tmps)with
     | true=>
      rw [hw]at hk;have hk:wW E o A S (λv _=>match OB v u with | true=>wL E ops A S l k | false=>false)=true:=hk;obtain⟨v,v',hk,hv,dF⟩:=XZ hs.rel hs.act Yt hk;split at hk
      ·rename_i aGy
       have:=Ys aGy hv hr;subst this;exact⟨hk,o,ho,.inl ⟨hw,dF⟩⟩
      ·cases hk
     | false=>
      rw [hw]at hk;have hk:(match(generalizing:=false) u with | .tuple ⟨[]⟩=>wL E ops A S l k | _=>false)=true:=hk;split at hk
      ·obtain⟨x,rfl,hx⟩:=hr.LF
       have:x= #[]:=iR.1 (hx.jP);subst this;exact⟨hk,o,ho,.inr ⟨hw,rfl⟩⟩
      ·cases hk
    obtain⟨h1,h2⟩:=ih uW.1 λj hj=>hl j (.tail _ hj);refine⟨h1,λj hj=>?_⟩;cases hj with
    | head=>exact⟨o,d,u',ho,hd,hu',uW.2⟩
    | tail _ hj=>exact h2 j hj
   ·cases hk
  ·cases hk
end
def isTrue:Value->Bool
 | .bool b=>b
 | _=>false
def St.none(n:Nat):St:=⟨.leaf,n⟩
def Rn.globals(n:Nat):Rn:=λi=>if i<n then some ⟨i,0,0,0⟩else none
theorem Rel.none{P:Program}{w:World}(hsz:P.globals.size<=w.heap.size):Rel P w (Rn.globals P.globals.size) (St.none P.globals.size) w:=by
 have IF:∀i,(St.none P.globals.size).obj i=Option.none:=λi=>rfl
 have hr:∀i L,Rn.globals P.globals.size i=some L->i<P.globals.size/\L=⟨i,0,0,0⟩:=by
  intro i L h;unfold Rn.globals at h;split at h
  ·rename_i hi;injection h with h;exact⟨hi,h.symm⟩
  ·cases h
 have hf:∀{i o},(St.none P.globals.size).obj i=some o->False:=λh=>nomatch (IF _).symm.trans h;refine⟨λg hg=>⟨⟨g,0,0,0⟩,if_pos hg,rfl,rfl⟩,λi o h=>(hf h).elim,λi hi=>?_,λi o h=>(hf h).elim,λi L h=>?_,λi j a b L M _ h=>(hf h).elim,λj vs e olds h=>(hf h).elim,?_⟩
 ·have:P.globals.size<=i:=hi
  unfold Rn.globals;rw [if_neg (by omega)]
 ·obtain⟨h1,rfl⟩:=hr i L h
  show i<_;omega
 ·exact⟨rfl,rfl,rfl,bI _,λ_ _=>rfl⟩
structure EvW where
 f:aO->(Value->Bool)->Bool
def xI(x:Operand):EvW:=
 match x with
 | .tmp t=>⟨λA k=>SC A.tmps t k⟩
 | .const v=>match jV v with | true=>⟨λ_ k=>k v⟩ | false=>⟨λ_ _=>false⟩
 | .global g=>⟨λA k=>match Nat.blt g A.g with | true=>k (.pointer (some ⟨g,0,none⟩)) | false=>false⟩
 | .func f=>⟨λ_ k=>k (.func (.func f) #[] #[])⟩
theorem kT(A:aO)(x:Operand)(k:Value->Bool):(xI x).f A k=tC A x k:=by
 cases x with
 | const v=>unfold xI tC;simp only;cases jV v<;>rfl
 | _=>rfl
structure aOm where
 f:aO->(List Value->Bool)->Bool
def aBX(xs:List Operand):aOm:=fS (β:=aOm) ⟨λ_ k=>k []⟩ (λx _ ih=>⟨λA k=>(xI x).f A λv=>ih.f A λvs=>k (v::vs)⟩) xs
theorem YB(A:aO):∀(xs:List Operand) (k:List Value->Bool),(aBX xs).f A k=PG A xs k:=by
 intro xs;induction xs with
 | nil=>intro k;rfl
 | cons x xs ih=>
  intro k;show(xI x).f A (λv=>(aBX xs).f A λvs=>k (v::vs))=tC A x λv=>PG A xs λvs=>k (v::vs);rw [kT]
  congr 1
  funext v
  exact ih _
structure aPY where
 f:aO->(Option Value->Bool)->Bool
def aJQ(x:Option Operand):aPY:=match x with | none=>⟨λ_ k=>k none⟩ | some x=>⟨λA k=>(xI x).f A λv=>k (some v)⟩
theorem aJR(A:aO)(x:Option Operand)(k:Option Value->Bool):(aJQ x).f A k=VC A x k:=by
 cases x with
 | none=>rfl
 | some x=>exact kT A x _
structure IbW where
 f:IntKind->Int->Int->(Value->Bool)->Bool
def aDD(op:BinOp):IbW:=
 match op with
 | .add=>⟨λk x y K=>KD k (Int.add x y) K⟩
 | .sub=>⟨λk x y K=>KD k (Int.sub x y) K⟩
 | .mul=>⟨λk x y K=>KD k (Int.mul x y) K⟩
 | .eql=>⟨λ_ x y K=>nX (Hg x y) K⟩
 | .neq=>⟨λ_ x y K=>nX (!Hg x y) K⟩
 | .lss=>⟨λ_ x y K=>nX (Ns x y) K⟩
 | .leq=>⟨λ_ x y K=>nX (!Ns y x) K⟩
 | .gtr=>⟨λ_ x y K=>nX (Ns y x) K⟩
 | .geq=>⟨λ_ x y K=>nX (!Ns x y) K⟩
 | op=>⟨λk x y K=>MM op k x y K⟩
theorem aBY(op:BinOp)(k:IntKind)(x y:Int)(K:Value->Bool):(aDD op).f k x y K=MM op k x y K:=by cases op<;>rfl
structure BnW where
 f:TypeId->Value->Value->(Value->Bool)->Bool
def aJS(P:Program)(op:BinOp):BnW:=
 match op with
 | .shl=>⟨λt a b K=>VB P .shl t a b K⟩
 | .shr=>⟨λt a b K=>VB P .shr t a b K⟩
 | op=>⟨λt a b K=>match a,b with
  | .int k x,.int k' y=>match BN k k' with | true=>(aDD op).f k x y K | false=>false
  | a,b=>VB P op t a b K⟩
theorem aDE(P:Program)(op:BinOp)(t:TypeId)(a b:Value)(K:Value->Bool):(aJS P op).f t a b K=VB P op t a b K:=by
 cases op<;>first
  | rfl
  | (simp only [aJS]
     split
     ·rw [aBY];rfl
     ·rfl)
structure BiW where
 f:List TypeId->List Value->St->VK->Bool
def Yu(P:Program)(b:Builtin):BiW:=
 match b with
 | .append=>⟨λts args S K=>match args with | [s,x]=>pF P ts s x S K | _=>false⟩
 | .copy=>⟨λts args S K=>match args with | [d,s]=>Pf P ts d s S K | _=>false⟩
 | b=>⟨λts args S K=>nY P b ts args S K⟩
theorem Yv(P:Program)(b:Builtin)(ts:List TypeId)(args:List Value)(S:St)(K:VK):(Yu P b).f ts args S K=nY P b ts args S K:=by
 cases b<;>first
  | rfl
  | (match args with
     | []=>rfl
     | [_]=>rfl
     | [_,_]=>rfl
     | _::_::_::_=>rfl)
structure OpW where
 f:Env->aO->St->VK->Bool
def QD(P:Program)(c:Call):OpW:=
 match c.callee with
 | .builtin b=>⟨λ_ A S K=>(aBX c.args.toList).f A λargs=>(Yu P b).f c.argTypes.toList args S K⟩
 | .value f=>⟨λE A S K=>(aBX c.args.toList).f A λargs=>(xI f).f A λf=>match f with
  | .func (.func g) first captured=>zN first.toList args λl=>zN l captured.toList λl=>E.call g l S K
  | .func (.yield l) first captured=>match first.toList,captured.toList with
   | [],[]=>E.round l args S K
   | _,_=>false
  | _=>false⟩
 | .invoke r m=>⟨λE A S K=>(aBX c.args.toList).f A λargs=>(xI r).f A λv=>match v with
  | .iface t x=>match GK P t m with
   | some g=>E.call g (x::args) S K
   | none=>false
  | _=>false⟩
theorem zX(E:Env)(c:Call)(A:aO)(S:St)(K:VK):(QD E.P c).f E A S K=mO E A c S K:=by
 unfold QD mO;cases c.callee with
 | builtin b=>simp only [YB,Yv]<;>rfl
 | value f=>simp only [YB,kT]<;>rfl
 | invoke r m=>simp only [YB,kT]<;>rfl
def Xf(P:Program)(o:Oper):OpW:=
 match o.op with
 | .move x=>⟨λ_ A S K=>(xI x).f A λv=>K v S⟩
 | .assign x=>⟨λ_ A S K=>(xI x).f A λv=>K v S⟩
 | .load t a=>⟨λ_ A S K=>(xI a).f A λa=>KU P t a S K⟩
 | .store t a x=>⟨λ_ A S K=>(xI a).f A λa=>(xI x).f A λx=>UZ P t a x S λS=>K undef S⟩
 | .pick c a b=>⟨λ_ A S K=>(xI c).f A λc=>(xI a).f A λa=>(xI b).f A λb=>match c with
  | .bool true=>K a S
  | .bool false=>K b S
  | _=>false⟩
 | .box t x=>⟨λ_ A S K=>(xI x).f A λv=>Xo t v S K⟩
 | .nilCheck x=>⟨λ_ A S K=>(xI x).f A λv=>match v with
  | .pointer (some a)=>K (.pointer (some a)) S
  | .func (.func f) a b=>K (.func (.func f) a b) S
  | .func (.yield f) a b=>K (.func (.yield f) a b) S
  | .func (.method s) ⟨[.iface t w]⟩ ⟨[]⟩=>match GK P t s with
   | some _=>K (.func (.method s) ⟨[.iface t w]⟩ ⟨[]⟩) S
   | none=>false
  | .iface t w=>K (.iface t w) S
  | _=>false⟩
 | .binOp op t x y _=>⟨λ_ A S K=>(xI x).f A λa=>(xI y).f A λb=>(aJS P op).f t a b λv=>K v S⟩
 | .unOp op _ x=>⟨λ_ A S K=>(xI x).f A λa=>unK op a λv=>K v S⟩
 | .convert s d x=>⟨λ_ A S K=>(xI x).f A λa=>Ea P s d a S K⟩
 | .slice t x lo hi mx=>match mx,hi with
  | some _,none=>⟨λ_ _ _ _=>false⟩
  | mx,hi=>⟨λ_ A S K=>(xI x).f A λx=>(aJQ lo).f A λlo=>(aJQ hi).f A λhi=>(aJQ mx).f A λmx=>sJ P t x lo hi mx S λv=>K v S⟩
 | .fieldAddr s x f=>⟨λ_ A S K=>(xI x).f A λx=>BO P s x f λv=>K v S⟩
 | .field t x f=>⟨λ_ A S K=>(xI x).f A λx=>PH P t x f λv=>K v S⟩
 | .indexAddr t x ix=>⟨λ_ A S K=>(xI x).f A λx=>(xI ix).f A λix=>sK P t x ix λv=>K v S⟩
 | .index t x ix=>⟨λ_ A S K=>(xI x).f A λx=>(xI ix).f A λix=>Bo P t x ix λv=>K v S⟩
 | .extract t i=>⟨λ_ A S K=>(xI t).f A λv=>match v with
  | .tuple vs=>SZ vs.toList i λv=>K v S
  | _=>false⟩
 | .call c=>QD P c
 | _=>⟨λE A S K=>wW E o A S K⟩
theorem BW(E:Env)(o:Oper)(A:aO)(S:St)(K:VK):(Xf E.P o).f E A S K=wW E o A S K:=by
 unfold Xf;split
 all_goals (rename_i h)
 all_goals first
  | rfl
  | (unfold wW;rw [h];simp only [kT,aDE,zX]<;>rfl)
  | (unfold wW;rw [h];simp only;split<;>first | rfl | (simp only [kT,aJR]<;>rfl))
abbrev KS:=aO->St->Bool
structure Kd where
 f:Env->aO->St->KS->Bool
def aMk(d:Option Tmp)(v:Value)(A:aO)(k:aO->Bool):Bool:=
 match d with
 | some d=>sB v A.tmps d λts=>k ⟨ts,A.marks,A.g⟩
 | none=>k A
def aDF(P:Program)(o:Oper):Kd:=
 match o.dst with
 | some d=>⟨λE A S k=>(Xf P o).f E A S λv S=>sB v A.tmps d λts=>k ⟨ts,A.marks,A.g⟩ S⟩
 | none=>⟨λE A S k=>(Xf P o).f E A S λ_ S=>k A S⟩
def aGO(o:Oper):Kd:=
 match o.dst with
 | some d=>⟨λ_ A S k=>sB undef A.tmps d λts=>k ⟨ts,A.marks,A.g⟩ S⟩
 | none=>⟨λ_ A S k=>k A S⟩
structure GdW where
 f:aO->(Bool->Bool)->Bool
def Yw(ops:Array Oper)(o:Oper):GdW:=
 match o.guard with
 | none=>⟨λ_ k=>k true⟩
 | some (j,want)=>match ops[j]? with
  | some o'=>match o'.dst with
   | some d=>⟨λA k=>SC A.tmps d λv=>match v with
    | .bool b=>match b,want with | true,true | false,false=>k true | _,_=>k false
    | _=>k false⟩
   | none=>⟨λ_ k=>k false⟩
  | none=>⟨λ_ k=>k false⟩
def doW(P:Program)(ops:Array Oper)(o:Oper):Kd:=
 match o.guard with
 | none=>aDF P o
 | some _=>⟨λE A S k=>(Yw ops o).f A λb=>dL b ((aDF P o).f E A S k) ((aGO o).f E A S k)⟩
theorem Yx(E:Env)(o:Oper)(A:aO)(S:St)(k:KS):(aDF E.P o).f E A S k=wW E o A S λv S=>mA A o.dst v λA=>k A S:=by
 unfold aDF mA;cases o.dst<;>simp only [BW]
theorem aGP(E:Env)(o:Oper)(A:aO)(S:St)(k:KS):(aGO o).f E A S k=mA A o.dst undef λA=>k A S:=by
 unfold aGO mA;cases o.dst<;>rfl
theorem Yy(ops:Array Oper)(o:Oper)(A:aO)(k:Bool->Bool):(Yw ops o).f A k=zP ops o A k:=by
 unfold Yw zP;cases o.guard with
 | none=>rfl
 | some jw=>
  obtain⟨j,want⟩:=jw;simp only;cases ops[j]? with
  | none=>rfl
  | some o'=>
   simp only;cases o'.dst<;>rfl
theorem aBZ(E:Env)(ops:Array Oper)(o:Oper)(A:aO)(S:St)(k:KS):(doW E.P ops o).f E A S k=VD E ops o A S k:=by
 unfold doW VD;cases hg:o.guard with
 | none=>
  simp only [Yx];unfold zP;rw [hg];rfl
 | some _=>simp only [Yx,aGP,Yy]
def aMl(P:Program)(ops:Array Oper)(l:List Oper):Kd:=
 fS (β:=Kd) ⟨λ_ A S k=>k A S⟩ (λo _ ih=>⟨λE A S k=>(doW P ops o).f E A S λA S=>ih.f E A S k⟩) l
theorem aJT(E:Env)(ops:Array Oper):∀(l:List Oper) (A:aO) (S:St) (k:KS),(aMl E.P ops l).f E A S k=TA E ops l A S k:=by
 intro l;induction l with
 | nil=>intro A S k;rfl
 | cons o l ih=>
  intro A S k;show(doW E.P ops o).f E A S (λA S=>(aMl E.P ops l).f E A S k)=VD E ops o A S λA S=>TA E ops l A S k;rw [aBZ]
  congr 1
  funext A S
  exact ih A S k
structure ChW where
 f:Env->aO->St->Bool->Bool
def aB0(P:Program)(ops:Array Oper)(l:List Nat):ChW:=
 fS (β:=ChW) ⟨λ_ _ _ k=>k⟩ (λi _ ih=>match ops[i]? with
  | some o=>match o.dst with
   | some d=>⟨λE A S k=>SC A.tmps d λu=>(Yw ops o).f A λb=>dL b ((Xf P o).f E A S λv _=>match OB v u with | true=>ih.f E A S k | false=>false) (match u with | .tuple ⟨[]⟩=>ih.f E A S k | _=>false)⟩
   | none=>⟨λ_ _ _ _=>false⟩
  | none=>⟨λ_ _ _ _=>false⟩) l
theorem aEX(P:Program)(ops:Array Oper)(i:Nat)(l:List Nat):aB0 P ops (i::l)=match ops[i]? with
 | some o=>match o.dst with
  | some d=>⟨λE A S k=>SC A.tmps d λu=>(Yw ops o).f A λb=>dL b ((Xf P o).f E A S λv _=>match OB v u with | true=>(aB0 P ops l).f E A S k | false=>false) (match u with | .tuple ⟨[]⟩=>(aB0 P ops l).f E A S k | _=>false)⟩
  | none=>⟨λ_ _ _ _=>false⟩
 | none=>⟨λ_ _ _ _=>false⟩:=rfl
theorem Ca(E:Env)(ops:Array Oper)(A:aO)(S:St)(i:Nat)(l:List Nat)(k:Bool):wL E ops A S (i::l) k=match ops[i]? with
 | some o=>match o.dst with
  | some d=>SC A.tmps d λu=>zP ops o A λb=>dL b (wW E o A S λv _=>match OB v u with | true=>wL E ops A S l k | false=>false) (match u with | .tuple ⟨[]⟩=>wL E ops A S l k | _=>false)
  | none=>false
 | none=>false:=rfl
theorem aDG(E:Env)(ops:Array Oper)(A:aO)(S:St)(k:Bool):∀(l:List Nat),(aB0 E.P ops l).f E A S k=wL E ops A S l k:=by
 intro l;induction l with
 | nil=>rfl
 | cons i l ih=>
  rw [aEX,Ca];cases ops[i]? with
  | none=>rfl
  | some o=>
   simp only;cases o.dst with
   | none=>rfl
   | some d=>simp only [BW,Yy,ih]<;>rfl
structure CdW where
 f:Env->Option Nat->aO->St->VF->Bool
structure FnW where
 f:Env->List Value->St->VK->Bool
section
variable{P:Program}{w0:World}{U:Rn}{S:St}{w:World}
theorem Rel.Pr(h:Rel P w0 U S w)(o:iP)(L:Loc)(hlt:L.b<w.heap.size)(ES:∀i M,U i=some M->M.b≠L.b)
 (ho:∀U':Rn,Ext U U'->U' S.n=some L->BR P w0 U' w S.n o) (IF:o.olds=[]):
 Rel P w0 (U.put S.n L) (S.new o) w:=by
 have IS:=h.Xc S.n (bI _);have he:Ext U (U.put S.n L):=Rn.IT IS
 have pX:∀j M,U.put S.n L j=some M->(j=S.n/\M=L)\/(j≠S.n/\U j=some M):=λj M hj=>by
  unfold Rn.put at hj;by_cases e:j=S.n
  ·rw [if_pos e]at hj;injection hj with hj;exact .inl ⟨e,hj.symm⟩
  ·rw [if_neg e]at hj;exact .inr ⟨e,hj⟩
 have pM:∀j x,(S.new o).obj j=some x->(j=S.n/\x=o)\/(j≠S.n/\S.obj j=some x):=λj x hx=>by
  rw [MQ]at hx;by_cases e:j=S.n
  ·rw [if_pos e]at hx;injection hx with hx;exact .inl ⟨e,hx.symm⟩
  ·rw [if_neg e]at hx;exact .inr ⟨e,hx⟩
 refine⟨λg hg=>let⟨M,h1,h2⟩:=h.Gl g hg;⟨M,he _ _ h1,h2⟩,λj x hx=>?_,λj hj=>?_,λj x hx=>?_,λj M hj=>?_,λi j a b M N XS ha hb hda hdb hM hN Gk=>?_,λj vs e olds hj i hi=>?_,h.base⟩
 ·rcases pM j x hx with ⟨e,ex⟩ | ⟨e,hx⟩
  ·subst e ex;exact ho _ he (Rn.kD _ _ _)
  ·exact(h.GO j x hx).frame he λM hM=>rfl
 ·have Ny:S.n+1<=j:=hj
  unfold Rn.put;rw [if_neg (by omega)];exact h.Xc j (by omega)
 ·rcases pM j x hx with ⟨e,_⟩ | ⟨_,hx⟩
  ·subst e;exact xS _
  ·exact oT (h.lt j x hx)
 ·rcases pX j M hj with ⟨_,e⟩ | ⟨_,hM⟩
  ·subst e;exact hlt
  ·exact h.loc j M hM
 ·rcases pX i M hM with ⟨ei,eM⟩ | ⟨ei,El⟩<;>rcases pX j N hN with ⟨ej,eN⟩ | ⟨ej,hN'⟩
  ·omega
  ·rw [eM]at Gk;exact absurd Gk.symm (ES j N hN')
  ·rw [eN]at Gk;exact absurd Gk (ES i M El)
  ·rcases pM i a ha with ⟨e,_⟩ | ⟨_,ha'⟩
   ·exact absurd e ei
   ·rcases pM j b hb with ⟨e,_⟩ | ⟨_,TU⟩
    ·exact absurd e ej
    ·exact h.sep i j a b M N XS ha' TU hda hdb El hN' Gk
 ·rcases pM j _ hj with ⟨e1,e2⟩ | ⟨e1,Ny⟩
  ·subst e2;rw [show olds=[]from IF]at hi;cases hi
  ·obtain⟨h1,h2⟩:=h.old j vs e olds Ny i hi
   refine⟨oT h1,λx hx=>?_⟩;rcases pM i x hx with ⟨e3,_⟩ | ⟨e3,Eh⟩
   ·omega
   ·rcases h2 x Eh with h3 | ⟨ws,e',h3,h4⟩
    ·exact .inl h3
    ·refine .inr ⟨ws,e',h3,λL1 M Sz hM hb=>?_⟩
     rcases pX _ _ Sz with ⟨e4,_⟩ | ⟨_,aGL⟩
     ·exact absurd e4 e1
     ·rcases pX _ _ hM with ⟨e5,_⟩ | ⟨_,El⟩
      ·exact absurd e5 e3
      ·exact h4 L1 M aGL El hb
theorem uI.Pr{U0:Rn}{wa:World}(h:uI U0 wa U w)(hn:U S.n=none){L:Loc}(hL:wa.heap.size<=L.b):uI U0 wa (U.put S.n L) w:=by
 refine⟨h.ext.trans (Rn.IT hn),h.fr,λi M hi=>?_⟩;unfold Rn.put at hi;by_cases e:i=S.n
 ·rw [if_pos e]at hi;injection hi with hi;subst hi;exact .inr (.inl hL)
 ·rw [if_neg e]at hi;exact h.nw i M hi
structure Mk(P:Program)(w0:World)(U:Rn)(S:St)(s:Sem Go.Next)(v:Value)(o:iP)(ob:Obj)(mk:Nat->Value):Prop where
 run:∀w,s.run P w= .ok (.value (mk w.heap.size)) (w.alloc ob)
 olds:o.olds=[]
 val:∀(U':Rn) (b:Nat),Ext U U'->(∃L,U' S.n=some L/\L.b=b/\L.s=0)->VR U' v (mk b)
 obj:∀(b:Nat),w0.heap.size<=b->∃L:Loc,L.b=b/\L.s=0/\∀(U':Rn) (w:World),Ext U U'->U' S.n=some L->w.heap[b]? =some ob->BR P w0 U' w S.n o
theorem Mk.cells{s:Sem Go.Next}{cs cs':List Value}(xV:lD U cs cs')(t:TypeId){v:Value}{mk:Nat->Value}(hr:∀w,s.run P w= .ok (.value (mk w.heap.size)) (w.alloc (.cells ⟨cs'⟩ t)))
 (hv:∀(U':Rn) (b:Nat),Ext U U'->(∃L,U' S.n=some L/\L.b=b/\L.s=0)->VR U' v (mk b)):Mk P w0 U S s v (.cells cs t .exact) (.cells ⟨cs'⟩ t) mk:=by
 refine⟨hr,rfl,hv,λb hb=>⟨⟨b,0,cs'.length,0⟩,rfl,rfl,λU' w he hU' hw=>⟨_,⟨cs'⟩,t,(0,0),hU',hw,λj v hj=>?_,?_⟩⟩⟩
 ·obtain⟨v',FG,hr⟩:=xV.get hj
  exact⟨v',by simpa using FG,hr.mono he⟩
 ·exact⟨hb,rfl,xV.1.symm,λx _ hx=>by simp at hx,rfl⟩
end
section
variable{P:Program}{w0:World}{U:Rn}{S:St}{w:World}
def FN(o:Oper):Bool:=match o.op with | .buildSlice .. | .box .. | .alloc _ | .makeSlice .. | .makeMap _ none=>true | _=>false
def QE(P:Program)(w0:World)(U:Rn)(S:St)(K:VK)(s:Sem Go.Next):Prop:=∃v o ob mk,K v (S.new o)=true/\Mk P w0 U S s v o ob mk
theorem QE.ptr{s:Sem Value}{K:VK}{cs cs':List Value}{t:TypeId}(xV:lD U cs cs')(hk:uH S (.cells cs t .exact) (λi S=>K (.pointer (some ⟨i,0,none⟩)) S)=true)
 (hr:∀w,s.run P w= .ok (.pointer (some ⟨w.heap.size,0,none⟩)) (w.alloc (.cells ⟨cs'⟩ t))):QE P w0 U S K (do pure (.value (<-s))):=by
 rw [gZ]at hk;refine⟨_,_,_,λb=> .pointer (some ⟨b,0,none⟩),hk,Mk.cells xV t (λw=>by rw [bY,hr];rfl) λU' b _ ⟨L,hL,hb,hs⟩=> .aL2 hL hb hs⟩
theorem QE.row{s:Sem Value}{K:VK}{cs cs':List Value}{t:TypeId}{n c:Nat}(xV:lD U cs cs')(hk:uH S (.cells cs t .exact) (λi S=>K (.slice (some ⟨i,0,none⟩) n c) S)=true)
 (hr:∀w,s.run P w= .ok (.slice (some ⟨w.heap.size,0,none⟩) n c) (w.alloc (.cells ⟨cs'⟩ t))):QE P w0 U S K (do pure (.value (<-s))):=by
 rw [gZ]at hk;refine⟨_,_,_,λb=> .slice (some ⟨b,0,none⟩) n c,hk,Mk.cells xV t (λw=>by rw [bY,hr];rfl) λU' b _ ⟨L,hL,hb,hs⟩=> .Jk hL hb hs n c⟩
theorem QE.lost{s:Sem Value}{K:VK}{ob:Obj}{n c:Nat}(hk:uH S .dead (λi S=>K (.slice (some ⟨i,0,none⟩) n c) S)=true)
 (hr:∀w,s.run P w= .ok (.slice (some ⟨w.heap.size,0,none⟩) n c) (w.alloc ob)):QE P w0 U S K (do pure (.value (<-s))):=by
 rw [gZ]at hk;refine⟨_,_,_,λb=> .slice (some ⟨b,0,none⟩) n c,hk,λw=>by rw [bY,hr];rfl,rfl,λU' b _ ⟨L,hL,hb,hs⟩=> .Jk hL hb hs n c,λb _=>⟨⟨b,0,0,0⟩,rfl,rfl,λ_ _ _ _ _=>trivial⟩⟩
end
section
variable{P:Program}{w0:World}{U:Rn}{S:St}{w:World}
theorem aJU{t:TypeId}{x x':Value}{K:VK}(hk:Xo t x S K=true)(hx:VR U x x'):QE P w0 U S K (do pure (.value (<-Instr.box t x'))):=by
 unfold Xo at hk;obtain⟨cs,hk,_,xV,_⟩:=CJ hk hx;exact QE.ptr xV hk λw=>by simp [Instr.box,newVar,newRow]
theorem aEY{t:TypeId}{K:VK}(hk:PI P t S K=true):QE P w0 U S K (do pure (.value (<-Instr.alloc t true (.tuple #[])))):=by
 unfold PI at hk;split at hk
 ·rename_i zero hz
  split at hk
  ·rename_i Ef
   rw [aDz]at hk;have Pg:lD U zero zero:= .flat (by rw [jZ]at Ef;exact dJ.1 Ef);refine QE.ptr Pg hk λw=>?_;obtain⟨zv,Hh,XB⟩:=BQ hz w;have ez:zv.cells=⟨zero⟩:=iR.1 XB;simp [Instr.alloc,Hh,newVar,newRow,ez]
  ·cases hk
 ·cases hk
theorem Od{t:TypeId}{l l' c c':Value}{K:VK}(hk:uS P t l c S K=true)(hl:VR U l l')(hc:VR U c c'):QE P w0 U S K (do pure (.value (<-Instr.makeSlice t l' c'))):=by
 unfold uS at hk;split at hk
 ·rename_i k1 l k2 c
  rw [hl.of_flat rfl,hc.of_flat rfl];split at hk
  ·rename_i elem he
   have hu:=gI he;split at hk
   ·rename_i info zero hi hz
    split at hk
    ·rename_i q h1 h2 h3 h4 h5
     have h1:=aW h1;have h2:=aW h2;have h3:=aW h3;have h4:=cT h4;split at hk
     ·rename_i Ef
      obtain⟨zv,hzi,XB⟩:=Jl hz hi;have wC:zero≠[]:=by intro e;rw [e]at h4;simp at h4;omega
      have Bt:=GN zero zv.cells XB c wC
      have h2':(info.bytes:Int)*(c:Int)<=1099511627776:=by
       have:((info.bytes*c:Nat):Int)<=1099511627776:=by omega
       rwa [Int.natCast_mul]at this
      have hm:madeCells zv.cells (c*info.size)=⟨(List.replicate c zero).flatten⟩:=by rw [<-Bt,h4];rfl
      have hr:∀w,(Instr.makeSlice t (.int k1 (.ofNat l)) (.int k2 (.ofNat c))).run P w= .ok (.slice (some ⟨w.heap.size,0,none⟩) l c) (w.alloc (.cells ⟨(List.replicate c zero).flatten⟩ elem)):=λw=>by
       have hr:=run_make (P:=P) w t elem info zv hu hi hzi k1 k2 l c (by omega) (by omega) (by omega) (by omega);simp only [Int.toNat_natCast]at hr;rw [hm]at hr;exact hr
      split at hk
      ·rw [CL]at hk
       have Pg:lD U zero zero:= .flat (by rw [jZ]at Ef;exact dJ.1 Ef);exact QE.row (Pg.flatten c) hk hr
      ·exact QE.lost hk hr
     ·cases hk
    ·cases hk
   ·cases hk
  ·cases hk
 ·cases hk
theorem Ke(h:Rel P w0 U S w){A:aO}{a:Act}(hA:xX P U A a){t:TypeId}{len:Nat}{parts:Array (Nat×Operand)}{K:VK}(hk:yJ P A t len parts.toList S K=true):
 QE P w0 U S K (do pure (.value (<-Instr.buildSlice t len (parts.map λp=>(p.1,a.eval p.2))))):=by
 unfold yJ at hk;split at hk
 ·rename_i elem he
  have hu:=gI he;split at hk
  ·rename_i size zero hsz hz
   split at hk
   ·rename_i h1 h2
    have h1:=aW h1;have h2:=cT h2;split at hk
    ·rename_i Ef
     have Pg:lD U zero zero:= .flat (by rw [jZ]at Ef;exact dJ.1 Ef);rw [CL]at hk;obtain⟨ps,hk,Ee⟩:=FH h hA hk;obtain⟨out,Nt,g1,g2,g3,_⟩:=IP (place':=λi=>some (i*(size+1),size+1)) (cells':=⟨(List.replicate len zero).flatten⟩) (by intro i q hq;exact hq) hk Ee (Pg.flatten len);refine QE.row g3 g1 λw=>?_;obtain⟨zv,Hh,XB⟩:=BQ hz w;have wC:zero≠[]:=by intro e;rw [e]at h2;simp at h2
     have e2:(parts.map λp=>(p.1,a.eval p.2)).toList=parts.toList.map λp=>(p.1,a.eval p.2):=by simp
     have hc:¬len*(size+1)>2 ^ 24:=by omega
     by_cases h0:len*(size+1)=0
     ·have hl0:len=0:=by
       rcases Nat.mul_eq_zero.1 h0 with h0 | h0
       ·exact h0
       ·omega
      subst hl0;have e3:(⟨(List.replicate 0 zero).flatten⟩:Array Value)= #[]:=by simp
      rw [e3]at g2;have e4:∀f:Nat->Value,(Array.range 0).map f= #[]:=λf=>by simp
      simp only [Instr.buildSlice,bY,run_underlying hu,dU,gS hsz,KC,e4,e2,g2,newRow];rfl
     ·have Bt:=GN zero zv.cells XB len wC
      rw [h2]at Bt;simp only [Instr.buildSlice,bY,run_underlying hu,dU,gS hsz,if_neg hc,if_neg h0,Hh,jU,Bt,e2,g2,newRow];rfl
    ·cases hk
   ·cases hk
  ·cases hk
 ·cases hk
theorem Za{t:TypeId}{K:VK}(hk:uH S (.map [] 0) (λi S=>K (.map (some i)) S)=true):QE P w0 U S K (do pure (.value (<-Instr.makeMap t none))):=by
 rw [gZ]at hk;refine⟨_,.map [] 0,.map #[] 0,λb=> .map (some b),hk,⟨λw=>by simp [Instr.makeMap,newObj];rfl,rfl,λU' b _ ⟨L,hL,hb,_⟩=>hb▸ .map hL,λb hb=>⟨⟨b,0,0,0⟩,rfl,rfl,λU' w he hU' hw=>⟨_,#[],hU',hb,hw,⟨rfl,by simp⟩⟩⟩⟩⟩
end
section
variable{E:Env}{w0:World}{U:Rn}{S:St}{w:World}
theorem VP(h:Rel E.P w0 U S w){A:aO}{a:Act}(hA:xX E.P U A a){o:Oper}(hp:FN o=true){K:VK}(hk:wW E o A S K=true):QE E.P w0 U S K (execOp a.eval o):=by
 unfold wW at hk;unfold execOp;unfold FN at hp;split at hk<;>first | (cases hk;done) | skip
 all_goals (rename_i OP;rw [OP]at hp;first | (cases hp;done) | skip)
 all_goals (simp only [OP])
 ·exact aEY hk
 ·obtain⟨x,hk,hx⟩:=aK h hA hk
  exact aJU hk hx
 ·exact Ke h hA hk
 ·exact Za hk
 ·obtain⟨x,hk,hx⟩:=aK h hA hk
  obtain⟨y,hk,hy⟩:=aK h hA hk;exact Od hk hx hy
end
namespace Tr
variable{α:Type}
def del:Tr α->Nat->Tr α
 | leaf,_=>leaf
 | node v l r,n=>if n=0 then node none l r else if n%2=1 then node v (l.del (n / 2)) r else node v l (r.del (n / 2-1))
end Tr
def aGQ{α:Type}(t:Tr α)(n:Nat)(k:Tr α->Bool):Bool:=
 aN7 (β:=Nat->(Tr α->Bool)->Bool) (λ_ k=>k .leaf) (λv l r dl dr n k=>oU n (k (.node none l r)) λp=>oU (Nat.mod p 2) (dl (Nat.div p 2) λc=>k (.node v c r)) λ_=>dr (Nat.div p 2) λc=>k (.node v l c)) t n k
theorem aDH{α:Type}(t:Tr α):∀(n:Nat) (k:Tr α->Bool),aGQ t n k=k (t.del n):=by
 induction t with
 | leaf=>intro n k;rfl
 | node v l r il ir=>
  intro n k;cases n with
  | zero=>rfl
  | succ p=>
   show oU (p%2) (aGQ l (p / 2) λc=>k (.node v c r)) (λ_=>aGQ r (p / 2) λc=>k (.node v l c))=_;rw [il,ir];have aGR:p+1≠0:=by omega
   simp only [Tr.del,if_neg aGR];rcases Nat.mod_two_eq_zero_or_one p with h | h
   ·rw [h,if_pos (by omega),show(p+1) / 2=p / 2 by omega];rfl
   ·rw [h,if_neg (by omega),show(p+1) / 2-1=p / 2 by omega];rfl
theorem YC{α:Type}(t:Tr α):∀(n m:Nat),(t.del n).get m=if m=n then none else t.get m:=by
 induction t with
 | leaf=>intro n m;show none=_;split<;>rfl
 | node v l r il ir=>
  intro n m;by_cases h0:n=0
  ·subst h0
   by_cases hm:m=0<;>simp [Tr.del,Tr.get,hm]
  ·by_cases h1:n%2=1
   ·simp only [Tr.del,if_neg h0,if_pos h1,Tr.get]
    by_cases hm:m=0
    ·subst hm;simp [dB h0]
    ·by_cases h2:m%2=1
     ·simp only [if_neg hm,if_pos h2,il]
      by_cases e:m=n
      ·simp [e]
      ·rw [if_neg e,if_neg (by omega)]
     ·simp only [if_neg hm,if_neg h2]
      rw [if_neg (by omega)]
   ·simp only [Tr.del,if_neg h0,if_neg h1,Tr.get]
    by_cases hm:m=0
    ·subst hm;simp [dB h0]
    ·by_cases h2:m%2=1
     ·simp only [if_neg hm,if_pos h2]
      rw [if_neg (by omega)]
     ·simp only [if_neg hm,if_neg h2,ir]
      by_cases e:m=n
      ·simp [e]
      ·rw [if_neg e,if_neg (by omega)]
def aGS(o:Oper):Bool:=match o.op with | .assign _=>true | _=>false
def Kf(P:Program)(o:Oper):Bool:=o.guard.isNone&&(o.dst.isSome&&((pY P o&& !aGS o) || FN o))
def Cb(P:Program)(o:Oper):Option Tmp:=match o.op with
 | .convert s d (.tmp t)=>match P.underlying s,P.underlying d with
  | some (.slice e),some .string=>match P.underlying e with
   | some (.int .u8)=>some t
   | _=>none
  | _,_=>none
 | _=>none
def GW(o:Oper):Bool:=match o.op with | .makeSlice .. =>true | _=>false
def eZ(P:Program)(ops:Array Oper)(i:Nat):Option Nat:=match ops[i]? with
 | some o=>match Cb P o with
  | some t=>match o.guard.isNone&&o.dst.isSome with
   | true=>(List.range ops.size).find? λj=>match ops[j]? with | some q=>GW q&&(q.guard.isNone&&(q.dst==some t&&dep ops i j)) | none=>false
   | false=>none
  | none=>none
 | none=>none
def EB(P:Program)(ops:Array Oper)(j:Nat):Bool:=(match ops[j]? with | some q=>GW q | none=>false)&&(List.range ops.size).any λi=>eZ P ops i==some j
def lF(P:Program)(ops:Array Oper)(i:Nat):Bool:=match ops[i]? with | some o=>Kf P o || (eZ P ops i).isSome | none=>false
def IX(ops:Array Oper)(t:Array Bool)(i:Nat):Bool:=match ops[i]? with
 | some o=> !(t.getD i true)&&o.after.toList.all λe=> !Region.binds .any e || t.getD e.on false
 | none=>false
def GX(P:Program)(ops:Array Oper):List Nat->Array Bool->List Nat->Array Bool×List Nat
 | [],t,l=>(t,l)
 | i::is,t,l=>match lF P ops i&&IX ops t i with
  | true=>GX P ops is (t.setIfInBounds i true) (l++[i])
  | false=>GX P ops is t l
def GY(P:Program)(ops:Array Oper)(_:Nat)(t:Array Bool)(l:List Nat):Array Bool×List Nat:=GX P ops (List.range ops.size) t l
def Td(acc:List Nat)(o:Oper):Nat:=(o.after.toList.filter (Region.binds .any)).foldl (λm e=>Nat.lor m (Nat.lor (Nat.shiftLeft 1 e.on) (acc.getD e.on 0))) 0
def Te(ops:Array Oper):List Nat:=ops.toList.foldl (λacc o=>acc++[Td acc o]) []
def UB(ops:Array Oper)(_ r i:Nat):Bool:=Nat.testBit ((Te ops).getD r 0) i
inductive wD where
 | take (i:Nat)
 | Ps (yC:List Nat) (mP:List (Nat×List Nat)) (done:List Nat) (r:Nat) (BX:List Nat)
 | fin (yC:List Nat) (mP:List (Nat×List Nat)) (done:List Nat)
def sM(P:Program)(ops:Array Oper)(mP:List Nat)(d:Nat):List Nat:=(mP.filter λi=>UB ops ops.size d i).filter λi=> !EB P ops i
def zY(ops:Array Oper)(d:Nat):Bool:=match ops[d]? with
 | some o=>(List.range ops.size).all λj=>j==d || (match ops[j]? with
  | some q=>match q.dst with
   | some e=>o.dst != some e&&(!(o.looksAt ops).contains e || UB ops ops.size d j)
   | none=>true
  | none=>true)
 | none=>false
def LG:List wD->List Nat
 | []=>[]
 | .take _::l=>LG l
 | .Ps _ p _ _ _::l=>p.map Prod.fst++LG l
 | .fin _ p _::l=>p.map Prod.fst++LG l
def EC(E:Env)(ops:Array Oper)(i:Nat)(o:Oper)(A:aO)(S:St)(K:VK):Bool:=match eZ E.P ops i with
 | none=>wW E o A S K
 | some j=>match ops[j]? with
  | some q=>wW E q A S λs S'=>match s with
   | .slice (some ⟨b,0,none⟩) _ _=>match Nat.beq b S.n with
    | true=>mA A q.dst s λA'=>wW E o A' S' λv _=>match v with
     | .string _=>K v S
     | _=>false
    | false=>false
   | _=>false
  | none=>false
def nI(E:Env)(ops:Array Oper)(l:List Nat)(A:aO)(S:St)(k:aO->St->Bool):Bool:=
 fS (β:=aO->St->Bool) (λA S=>k A S) (λi _ ih A S=>match ops[i]? with
  | some o=>EC E ops i o A S λv S=>mA A o.dst v λA=>ih A S
  | none=>false) l A S
def aB1(A:aO)(o:Oper)(k:Bool):Bool:=match o.dst with
 | some d=>dL (oV A.tmps.t d λ_=>true) false k
 | none=>false
def OR(E:Env)(ops:Array Oper)(A:aO)(S:St)(l:List (Nat×List Nat))(k:Bool):Bool:=
 fS (β:=Bool) k (λp _ ih=>match ops[p.1]? with
  | some o=>aB1 A o (dL (nI E ops p.2 A S λA S=>EC E ops p.1 o A S λ_ _=>true) ih false)
  | none=>false) l
def QF(ops:Array Oper)(l:List Nat)(A:aO)(k:aO->Bool):Bool:=
 fS (β:=aO->Bool) k (λi _ ih A=>match ops[i]? with
  | some o=>match o.dst with
   | some d=>aGQ A.tmps.t d λt=>ih {A with tmps:=⟨t,A.tmps.n⟩}
   | none=>false
  | none=>false) l A
def lW(E:Env)(ops:Array Oper)(l:List wD)(A:aO)(S:St)(k:aO->St->Bool):Bool:=
 fS (β:=aO->St->Bool) (λ_ _=>false) (λs _ ih A S=>match s with
  | .take i=>match ops[i]? with
   | some o=>VD E ops o A S ih
   | none=>false
  | .Ps yC mP D r BX=>match ops[r]? with
   | some o=>wL E ops A S yC (OR E ops A S mP (nI E ops D A S λA S=>VD E ops o A S λA S=>wL E ops A S BX (ih A S)))
   | none=>false
  | .fin yC mP D=>wL E ops A S yC (OR E ops A S mP (nI E ops D A S k))) l A S
theorem MV{P:Program}{U:Rn}{A:aO}{a:Act}(hA:xX P U A a){d:Tmp}{v v':Value}(hv:VR U v v')(ha:∀u,a.tmps.toList[d]? =some u->u=v'){k:aO->Bool}(hk:mA A (some d) v k=true):
 ∃A',k A'=true/\xX P U A' a/\A'.marks=A.marks/\∀e,e≠d->A'.tmps.t.get e=A.tmps.t.get e:=by
 obtain⟨hd,hk⟩:=BT (show sB v A.tmps d (λts=>k ⟨ts,A.marks,A.g⟩)=true from hk);refine⟨_,hk,⟨?_,hA.g⟩,rfl,λe he=>?_⟩
 ·have h1:=hA.tmps.set hd hv
  have hlt:d<a.tmps.toList.length:=by rw [<-hA.tmps.1];exact hd
  have h2:=ha _ (aP hlt);have:a.tmps.toList.set d v'=a.tmps.toList:=by rw [<-h2];exact List.set_getElem_self hlt
  rw [this]at h1;exact h1
 ·show(A.tmps.t.put d v).get e=_
  rw [xH,if_neg he]
theorem Et{P:Program}{o:Oper}{t:Tmp}(h:Cb P o=some t):∃s d e,o.op= .convert s d (.tmp t)/\P.underlying s=some (.slice e)/\P.underlying d=some .string/\P.underlying e=some (.int .u8):=by
 unfold Cb at h;split at h
 ·rename_i s d t' ho
  split at h
  ·rename_i e hs hd
   split at h
   ·rename_i he
    injection h with h;subst h;exact⟨s,d,e,ho,hs,hd,he⟩
   ·cases h
  ·cases h
 ·cases h
theorem mQ{P:Program}{ops:Array Oper}{i j:Nat}(h:eZ P ops i=some j):
 ∃o q t,ops[i]? =some o/\Cb P o=some t/\o.guard=none/\(∃d,o.dst=some d)/\ops[j]? =some q/\GW q=true/\q.guard=none/\q.dst=some t/\dep ops i j=true:=by
 unfold eZ at h;split at h
 ·rename_i o ho
  split at h
  ·rename_i t ht
   split at h
   ·rename_i hg
    have h1:=UU h;split at h1
    ·rename_i q hq
     simp only [bW,Im,beq_iff_eq,Ax]at h1 hg;exact⟨o,q,t,ho,ht,hg.1,hg.2,hq,h1.1,h1.2.1,h1.2.2.1,h1.2.2.2⟩
    ·cases h1
   ·cases h
  ·cases h
 ·cases h
theorem YD{o:Oper}(h:GW o=true):FN o=true:=by
 unfold GW at h;unfold FN;split at h
 ·rename_i h1;rw [h1]
 ·cases h
theorem Eu{P:Program}{o:Oper}(h:GW o=true):pY P o=false:=by
 unfold GW at h;unfold pY;split at h
 ·rename_i h1;rw [h1]
 ·cases h
theorem DA{P:Program}{o:Oper}{t:Tmp}(h:Cb P o=some t):pY P o=false/\FN o=false/\zW o=false/\GW o=false:=by
 obtain⟨s,d,e,ho,_,hd,_⟩:=Et h;refine⟨?_,?_,?_,?_⟩
 ·unfold pY;rw [ho];simp only [hd]
 ·unfold FN;rw [ho]
 ·unfold zW;rw [ho]
 ·unfold GW;rw [ho]
theorem aEZ{P:Program}{ops:Array Oper}{j:Nat}(h:EB P ops j=true):∃q,ops[j]? =some q/\GW q=true:=by
 unfold EB at h;simp only [bW]at h;have h1:=h.1;split at h1
 ·rename_i q hq;exact⟨q,hq,h1⟩
 ·cases h1
theorem Hm{P:Program}{ops:Array Oper}{i j:Nat}(h:eZ P ops i=some j):EB P ops j=true:=by
 obtain⟨o,q,t,ho,_,_,_,hq,hm,_⟩:=mQ h;unfold EB;simp only [hq,hm,Jb];exact Ix.2 ⟨i,PC.2 (nN.1 ho).1,by simp [h]⟩
theorem aOn{E:Env}{w0:World}{U:Rn}{S:St}{w:World}(h:Rel E.P w0 U S w){A:aO}{a:Act}(hA:xX E.P U A a){o:Oper}{t:Tmp}(ho:Cb E.P o=some t){b n c:Nat}(ht:A.tmps.t.get t=some (.slice (some ⟨b,0,none⟩) n c)){K:VK}(hk:wW E o A S K=true):
 ∃L v,U b=some L/\K v S=true/\bE v=true/\∀w':World,w'.heap[L.b]? =w.heap[L.b]? ->(execOp a.eval o).run E.P w'= .ok (.value v) w':=by
 obtain⟨sT,dT,e,OP,hs,hd,he⟩:=Et ho;unfold wW at hk;rw [OP]at hk;simp only at hk;unfold tC at hk;simp only at hk;obtain⟨x,hx,hk⟩:=CZ hk;rw [ht]at hx;injection hx with hx;subst hx;obtain⟨x',Eh,hvr⟩:=hA.tmps.get ht
 have hev:a.eval (.tmp t)=x':=by
  show a.tmps.getD t undef=x';have h1:a.tmps[t]? =some x':=by rw [<-Eh];simp
  simp [h1]
 unfold Ea at hk;simp only [hs,hd,he]at hk;rcases hvr.jC with ⟨L,c',hL,rfl,_⟩ | ⟨⟨_,h1⟩,_⟩
 ·obtain⟨vs,e',ck,hob,hle,hk⟩:=sL hk
  obtain⟨l',Sj,hlen,hc⟩:=h.yK hob hL hle;obtain⟨ns,hk,hns⟩:=Eg hk;rw [hns]at Sj;have aL3:l'=ns.map (λn=> .int .u8 (.ofNat n)):=Sj.aDA (by simp [bE]);refine⟨L,_,hL,hk,rfl,λw' hw'=>?_⟩
  have hcell:∀q:Nat,w'.cell? ((⟨L.b,L.s+0,none⟩:Addr).add q)=w.cell? ((⟨L.b,L.s+0,none⟩:Addr).add q):=by
   intro q;have hbl:((⟨L.b,L.s+0,none⟩:Addr).add q).block=L.b:=by unfold Addr.add;split<;>rfl
   simp only [World.cell?,hbl,hw']
  unfold execOp;simp only [OP,hev];rw [bY,run_convert_bytes_string w' sT dT e _ _ _ hs he hd];have Ei:=run_loadCells (P:=E.P) (w:=w') ⟨L.b,L.s+0,none⟩ l' hlen (λj v hj=>by rw [hcell];exact hc j v hj);rw [aL3]at Ei;have e1:(⟨ns.map (λn=>Value.int .u8 (.ofNat n))⟩:Array Value)=((ns.map Int.ofNat).map (Value.int .u8)).toArray:=by simp [List.map_map,Function.comp_def]
  rw [e1]at Ei;rw [run_bytesToString w' _ _ _ _ Ei]
  have hf:∀(l:List Nat) (r:ByteArray),(l.map Int.ofNat).foldl (λr (n:Int)=>r.push (UInt8.ofNat n.toNat)) r=⟨r.data++(l.map UInt8.ofNat).toArray⟩:=by
   intro l;induction l with
   | nil=>intro r;simp
   | cons b l ih=>intro r;simp only [xU,PA,ih];simp [ByteArray.push]
  rw [hf];have he0:ByteArray.empty.data= #[]:=rfl;rw [he0];simp
 ·cases h1
inductive EF(P:Program)(ops:Array Oper)(n0:Nat)(U:Rn)(a:Act)(w:World):Nat×Option Nat->Prop
 | pure {i:Nat} {o:Oper} {d:Tmp} {v':Value} (ho:ops[i]? =some o) (hd:o.dst=some d) (hp:pY P o=true) (ha:∀u,a.tmps.toList[d]? =some u->u=v') (hr:∀w',(execOp a.eval o).run P w'= .ok (.value v') w'):EF P ops n0 U a w (i,none)
 | mk {i:Nat} {o:Oper} {d:Tmp} {ob:Obj} {mkv:Nat->Value} {b:Nat} (ho:ops[i]? =some o) (hd:o.dst=some d) (hp:FN o=true) (ha:∀u,a.tmps.toList[d]? =some u->u=mkv b) (hr:∀w',(execOp a.eval o).run P w'= .ok (.value (mkv w'.heap.size)) (w'.alloc ob))
  (hb:n0<=b) (hw:w.heap[b]? =some ob) (hf:∀i L,U i=some L->L.b≠b):EF P ops n0 U a w (i,some b)
 | conv {i j:Nat} {o q:Oper} {d t:Tmp} {v':Value} {ob:Obj} {mkv:Nat->Value} {b:Nat} (ho:ops[i]? =some o) (hd:o.dst=some d) (hc:eZ P ops i=some j) (hq:ops[j]? =some q) (Zb:q.dst=some t) (ha:∀u,a.tmps.toList[d]? =some u->u=v') (AX:∀u,a.tmps.toList[t]? =some u->u=mkv b)
  (hrq:∀w',(execOp a.eval q).run P w'= .ok (.value (mkv w'.heap.size)) (w'.alloc ob)) (hr:∀w':World,w'.heap[b]? =some ob->(execOp a.eval o).run P w'= .ok (.value v') w')
  (hb:n0<=b) (hw:w.heap[b]? =some ob) (hf:∀i L,U i=some L->L.b≠b):EF P ops n0 U a w (i,some b)
theorem Ew{P:Program}{U:Rn}{S:St}{w0:World}{s:Sem Go.Next}{v:Value}{o:iP}{ob ob':Obj}{mk mkv:Nat->Value}(M:Mk P w0 U S s v o ob mk)(hr:∀w',s.run P w'= .ok (.value (mkv w'.heap.size)) (w'.alloc ob')):ob=ob'/\mk=mkv:=by
 constructor
 ·have h1:=M.run w0
  rw [hr w0]at h1;injection h1 with h1 h2;have h3:(w0.heap.push ob')=(w0.heap.push ob):=lT World.heap h2;have h4:(w0.heap.push ob')[w0.heap.size]? =(w0.heap.push ob)[w0.heap.size]? :=by rw [h3]
  simp at h4;exact h4.symm
 ·funext n
  have h1:=M.run {w0 with heap:=Array.replicate n ob};rw [hr]at h1;injection h1 with h1 h2;injection h1 with h1;simpa using h1.symm
section
variable{E:Env}{w0:World}{ops:Array Oper}
theorem EF.Pr{P:Program}{n0:Nat}{U:Rn}{a:Act}{w:World}{p:Nat×Option Nat}(h:EF P ops n0 U a w p){n:Nat}{L:Loc}(wC:∀b,p.2=some b->b≠L.b):EF P ops n0 (U.put n L) a w p:=by
 have key:∀b,p.2=some b->(∀i M,U i=some M->M.b≠b)->∀i M,U.put n L i=some M->M.b≠b:=by
  intro b hb hf i M hi;unfold Rn.put at hi;split at hi
  ·injection hi with hi;subst hi;exact(wC _ hb).symm
  ·exact hf i M hi
 cases h with
 | pure ho hd hp ha hr=>exact .pure ho hd hp ha hr
 | mk ho hd hp ha hr hb hw hf=>exact .mk ho hd hp ha hr hb hw (key _ rfl hf)
 | conv ho hd hc hq Zb ha AX hrq hr hb hw hf=>exact .conv ho hd hc hq Zb ha AX hrq hr hb hw (key _ rfl hf)
theorem Zc{U:Rn}{A:aO}{a:Act}{S:St}{w:World}(hs:SR E.P w0 U A a S w){i j:Nat}{o q:Oper}{t:Tmp}{ob:Obj}{mkv:Nat->Value}{b:Nat}(ho:ops[i]? =some o)(hc:eZ E.P ops i=some j)(hq:ops[j]? =some q)(Zb:q.dst=some t)
 (AX:∀u,a.tmps.toList[t]? =some u->u=mkv b) (hrq:∀w',(execOp a.eval q).run E.P w'= .ok (.value (mkv w'.heap.size)) (w'.alloc ob)) (hb:w0.heap.size<=b) (hw:w.heap[b]? =some ob) (hf:∀i L,U i=some L->L.b≠b) {K:VK} (hk:EC E ops i o A S K=true):
 ∃v,K v S=true/\bE v=true/\∀w':World,w'.heap[b]? =some ob->(execOp a.eval o).run E.P w'= .ok (.value v) w':=by
 obtain⟨o2,q2,t2,wK,hco,_,_,Xg,hm,_,Tf,_⟩:=mQ hc;rw [ho]at wK;injection wK with wK;subst wK;rw [hq]at Xg;injection Xg with Xg;subst Xg;rw [Zb]at Tf;injection Tf with Tf;subst Tf;unfold EC at hk;simp only [hc,hq]at hk;obtain⟨s,obj,ob',mk',hk,M⟩:=VP hs.rel hs.act (YD hm) hk;obtain⟨rfl,rfl⟩:=Ew M hrq;dsimp only at hk;split at hk
 ·rename_i bb n c
  split at hk
  ·rename_i hbb
   obtain rfl:bb=S.n:=by
    have:=cT hbb;exact this
   have hlt:b<w.heap.size:=(nN.1 hw).1;obtain⟨L,hL,hLs,pM⟩:=M.obj b hb;have IS:=hs.rel.Xc S.n (bI _);have Ya:Ext U (U.put S.n L):=Rn.IT IS;have hrel:=hs.rel.Pr obj L (by omega) (λi N hi=>by rw [hL];exact hf i N hi) (λU' he hU'=>pM U' w he hU' hw) M.olds;rw [Zb]at hk;obtain⟨aOo,hk⟩:=BT (show sB _ A.tmps t (λts=>wW E o ⟨ts,A.marks,A.g⟩ (S.new obj) _)=true from hk)
   have hA':xX E.P (U.put S.n L) ⟨A.tmps.put t (.slice (some ⟨S.n,0,none⟩) n c),A.marks,A.g⟩ a:=by
    have hA0:=hs.act.mono Ya;refine⟨?_,hA0.g⟩;have h1:=hA0.tmps.set aOo (M.val _ b Ya ⟨L,Rn.kD _ _ _,hL,hLs⟩);have aOp:t<a.tmps.toList.length:=by rw [<-hA0.tmps.1];exact aOo
    have h2:=AX _ (aP aOp);have:a.tmps.toList.set t (mk' b)=a.tmps.toList:=by rw [<-h2];exact List.set_getElem_self aOp
    rw [this]at h1;exact h1
   obtain⟨L2,v,Sq,hkv,Nm,dF⟩:=aOn hrel hA' hco (b:=S.n) (n:=n) (c:=c) (by show(A.tmps.t.put t _).get t=_;rw [xH,if_pos rfl]) hk;rw [Rn.kD]at Sq;injection Sq with Sq;subst Sq;split at hkv
   ·refine⟨_,hkv,Nm,λw' hw'=>dF w' ?_⟩
    rw [hL,hw',hw]
   ·cases hkv
  ·cases hk
 ·cases hk
theorem MW{U0:Rn}{wa:World}{a:Act}{w:World}(XD:w0.heap.size<=wa.heap.size){k:aO->St->Bool}:∀(l:List Nat) {U:Rn} {A:aO} {S:St} {X:List (Nat×Option Nat)},nI E ops l A S k=true->
 SR E.P w0 U A a S w->uI U0 wa U w->(∀i∈l,∃p∈X,p.1=i)->(∀i∈l,EB E.P ops i=false)->(∀p∈X,EF E.P ops wa.heap.size U a w p)->(∀p∈X,∀q∈X,∀b,p.2=some b->q.2=some b->EB E.P ops p.1=false->eZ E.P ops p.1=none->p=q)->l.Nodup->
 ∃U' A' S',k A' S'=true/\SR E.P w0 U' A' a S' w/\uI U0 wa U' w/\(∀p∈X,p.1∉l->EF E.P ops wa.heap.size U' a w p)/\∀d,(∀i∈l,∀o,ops[i]? =some o->o.dst≠some d)->A'.tmps.t.get d=A.tmps.t.get d:=by
 intro l;induction l with
 | nil=>intro U A S X hk hs PY _ _ hX _ _;exact⟨U,A,S,hk,hs,PY,λp hp _=>hX p hp,λ_ _=>rfl⟩
 | cons i l ih=>
  intro U A S X hk hs PY hl hgl hX Kg hnd;unfold nI at hk;rw [aS]at hk;obtain⟨⟨i',ob⟩,hpX,rfl⟩:=hl i (.head _);have hef:=hX _ hpX;have hng:=hgl i' (.head _);have aOq:=UV.1 hnd
  have fin:∀{U1:Rn} {A1:aO} {S1:St} {d:Tmp} {o:Oper},ops[i']? =some o->o.dst=some d->nI E ops l A1 S1 k=true->SR E.P w0 U1 A1 a S1 w->uI U0 wa U1 w->(∀p∈X,p.1≠i'->EF E.P ops wa.heap.size U1 a w p)->(∀e,e≠d->A1.tmps.t.get e=A.tmps.t.get e)->
   ∃U' A' S',k A' S'=true/\SR E.P w0 U' A' a S' w/\uI U0 wa U' w/\(∀p∈X,p.1∉i'::l->EF E.P ops wa.heap.size U' a w p)/\∀d,(∀j∈i'::l,∀o,ops[j]? =some o->o.dst≠some d)->A'.tmps.t.get d=A.tmps.t.get d:=by
   intro U1 A1 S1 d o ho hd Tg TX aOr hX1 hA1
   obtain⟨U',A',S',g1,g2,g3,g4,g5⟩:=ih (X:=X.filter λp=>p.1 != i') Tg TX aOr (λj hj=>by
    obtain⟨p,hp,he⟩:=hl j (.tail _ hj);refine⟨p,gE.2 ⟨hp,?_⟩,he⟩;have:p.1≠i':=by rw [he];intro e;subst e;exact aOq.1 hj
    simpa using this) (λj hj=>hgl j (.tail _ hj)) (λp hp=>by
    obtain⟨h1,h2⟩:=gE.1 hp;exact hX1 p h1 (by simpa using h2)) (λp hp q hq=>Kg p (gE.1 hp).1 q (gE.1 hq).1) aOq.2
   refine⟨U',A',S',g1,g2,g3,λp hp hn=>g4 p (gE.2 ⟨hp,?_⟩) (λh=>hn (.tail _ h)),λe he=>?_⟩
   ·have:p.1≠i':=λh=>hn (by rw [h];exact .head _)
    simpa using this
   ·rw [g5 e (λj hj=>he j (.tail _ hj)),hA1 e (λh=>he i' (.head _) o ho (by rw [hd,h]))]
  have plain:∀{o:Oper},ops[i']? =some o->eZ E.P ops i'=none->EC E ops i' o A S (λv S=>mA A o.dst v λA=>nI E ops l A S k)=true->wW E o A S (λv S=>mA A o.dst v λA=>nI E ops l A S k)=true:=by
   intro o ho hcn hk;unfold EC at hk;rw [hcn]at hk;exact hk
  cases hef with
  | @pure _ o d v' ho hd hp ha hr=>
   simp only [ho]at hk
   have hcn:eZ E.P ops i'=none:=by
    cases h:eZ E.P ops i' with
    | none=>rfl
    | some j=>
     obtain⟨o2,_,t,wK,hco,_⟩:=mQ h;rw [ho]at wK;injection wK with wK;subst wK;rw [(DA hco).1]at hp;cases hp
   have hk:wW E o A S (λv S=>mA A o.dst v λA=>nI E ops l A S k)=true:=plain ho hcn hk;obtain⟨v,v'',hk,hv,dF⟩:=MU hs.rel hs.act hp hk
   have he:v''=v':=by
    have:=dF w;rw [hr w]at this;injection this with h1 _;injection h1 with h1;exact h1.symm
   subst he;rw [hd]at hk;obtain⟨A',hk,hA',hm,hg⟩:=MV hs.act hv ha hk;exact fin ho hd hk ⟨hA',hs.rel,by rw [hm];exact hs.marks⟩ PY (λp hp _=>hX p hp) hg
  | @conv _ j o q d t v' ob mkv b ho hd hc hq Zb ha AX hrq hr hb hw hf=>
   simp only [ho]at hk;have hk:EC E ops i' o A S (λv S=>mA A o.dst v λA=>nI E ops l A S k)=true:=hk;obtain⟨v,hk,Nm,dF⟩:=Zc hs ho hc hq Zb AX hrq (tP XD hb) hw hf hk
   have he:v=v':=by
    have:=dF w hw;rw [hr w hw]at this;injection this with h1 _;injection h1 with h1;exact h1.symm
   subst he;rw [hd]at hk;obtain⟨A',hk,hA',hm,hg⟩:=MV hs.act (.flat Nm) ha hk;exact fin ho hd hk ⟨hA',hs.rel,by rw [hm];exact hs.marks⟩ PY (λp hp _=>hX p hp) hg
  | @mk _ o d ob mkv b ho hd hp ha hr hb hw hf=>
   simp only [ho]at hk
   have hcn:eZ E.P ops i'=none:=by
    cases h:eZ E.P ops i' with
    | none=>rfl
    | some j=>
     obtain⟨o2,_,t,wK,hco,_⟩:=mQ h;rw [ho]at wK;injection wK with wK;subst wK;rw [(DA hco).2.1]at hp;cases hp
   have hk:wW E o A S (λv S=>mA A o.dst v λA=>nI E ops l A S k)=true:=plain ho hcn hk;obtain⟨v,obj,ob',mk',hk,M⟩:=VP hs.rel hs.act hp hk;obtain⟨rfl,rfl⟩:=Ew M hr;have hlt:b<w.heap.size:=(nN.1 hw).1;obtain⟨L,hL,hLs,pM⟩:=M.obj b (tP XD hb);have IS:=hs.rel.Xc S.n (bI _);have Ya:Ext U (U.put S.n L):=Rn.IT IS;have hrel:=hs.rel.Pr obj L (by omega) (λi N hi=>by rw [hL];exact hf i N hi) (λU' he hU'=>pM U' w he hU' hw) M.olds;have aOs:=PY.Pr (S:=S) IS (L:=L) (by omega);rw [hd]at hk;obtain⟨A',hk,hA',hm,hg⟩:=MV (hs.act.mono Ya) (M.val _ b Ya ⟨L,Rn.kD _ _ _,hL,hLs⟩) ha hk;refine fin ho hd hk ⟨hA',hrel,by rw [hm];exact hs.marks.mono Ya⟩ aOs (λp hp wC=>(hX p hp).Pr λb' TU h=>?_) hg;have:=Kg _ hpX p hp b' (by rw [h,hL]) TU hng hcn;rw [<-this]at wC;exact wC rfl
end
def On(t:Array Bool)(j:Nat):Prop:=t.getD j false=true
theorem On.lt{t:Array Bool}{j:Nat}(h:On t j):j<t.size:=by
 unfold On at h;rcases zJ j t.size with h' | h'
 ·exact h'
 ·simp [h']at h
theorem Kh{t:Array Bool}{j:Nat}:t.getD j true=false↔j<t.size/\¬On t j:=by
 unfold On;rcases zJ j t.size with h | h
 ·simp [h]
 ·simp [h]
theorem On.set{t:Array Bool}{i j:Nat}(hi:i<t.size):On (t.setIfInBounds i true) j↔On t j\/j=i:=by
 unfold On;by_cases e:j=i
 ·subst e;simp [hi]
 ·have h1:(t.setIfInBounds i true)[j]? =t[j]? :=by rw [aBx (dB e)]
  simp [e,h1]
section
variable{P:Program}{ops:Array Oper}
def OC(ops:Array Oper)(j e:Nat):Prop:=∃o,ops[j]? =some o/\∃x∈o.after,Region.binds .any x=true/\x.on=e
theorem kE{j:Nat}{t:Array Bool}:j∈Region.ready .any ops t↔(j<t.size/\¬On t j)/\j<ops.size/\∀e,OC ops j e->On t e:=by
 rw [mem_ready,Kh];constructor
 ·rintro⟨h1,o,ho,h2⟩
  refine⟨h1,(nN.1 ho).1,?_⟩
  rintro e ⟨o',TD,x,hx,hb,rfl⟩
  rw [ho]at TD;injection TD with TD;subst TD;exact h2 x hx hb
 ·rintro⟨h1,h2,h3⟩
  exact⟨h1,_,Aw h2,λx hx hb=>h3 _ ⟨_,Aw h2,x,hx,hb,rfl⟩⟩
theorem aDJ{j e:Nat}:dep ops j e=true↔OC ops j e:=by
 unfold dep OC;cases h:ops[j]? with
 | none=>simp
 | some o=>
  simp only [Array.any_eq_true'];constructor
  ·rintro⟨x,hx,hb⟩
   simp only [bW,beq_iff_eq]at hb;exact⟨o,rfl,x,hx,hb.1,hb.2⟩
  ·rintro⟨o',TD,x,hx,hb,he⟩
   injection TD with TD;subst TD;exact⟨x,hx,by simp [hb,he]⟩
def yN(ops:Array Oper)(t:Array Bool):List Nat->List Nat->Prop
 | _,[]=>True
 | pre,d::l=>(∀e,OC ops d e->On t e\/e∈pre)/\yN ops t (d::pre) l
theorem yN.mono{t:Array Bool}:∀{l pre pre':List Nat},yN ops t pre l->(∀e∈pre,e∈pre')->yN ops t pre' l:=by
 intro l;induction l with
 | nil=>intro _ _ _ _;trivial
 | cons d l ih=>
  intro pre pre' h hs;refine⟨λe he=>(h.1 e he).imp id (hs e),ih h.2 λe he=>?_⟩;rcases dA.1 he with rfl | he
  ·exact .head _
  ·exact .tail _ (hs e he)
theorem yN.step{t:Array Bool}{i:Nat}(hi:i<t.size):∀{l pre:List Nat},yN ops (t.setIfInBounds i true) pre l->yN ops t (i::pre) l:=by
 intro l;induction l with
 | nil=>intro _ _;trivial
 | cons d l ih=>
  intro pre h;refine⟨λe he=>?_,(ih h.2).mono λe he=>?_⟩
  ·rcases h.1 e he with h1 | h1
   ·rcases(On.set hi).1 h1 with h1 | h1
    ·exact .inl h1
    ·subst h1;exact .inr (.head _)
   ·exact .inr (.tail _ h1)
  ·simp only [dA]at he ⊢
   rcases he with h | h | h
   ·exact .inr (.inl h)
   ·exact .inl h
   ·exact .inr (.inr h)
theorem QG{t:Array Bool}{i:Nat}:IX ops t i=true↔i∈Region.ready .any ops t:=by
 rw [kE];unfold IX;cases ho:ops[i]? with
 | none=>
  simp only [bQ,false_iff]
  rintro⟨_,h2,_⟩
  have:=Array.getElem?_eq_none_iff.1 ho;omega
 | some o=>
  have hlt:=(nN.1 ho).1;simp only [bW,xR,dJ,OZ];constructor
  ·rintro⟨h1,h2⟩
   refine⟨Kh.1 h1,hlt,?_⟩
   rintro e ⟨o',TD,x,hx,hb,rfl⟩
   rw [ho]at TD;injection TD with TD;subst TD;rcases h2 x (by simpa using hx)with h3 | h3
   ·rw [hb]at h3;cases h3
   ·exact h3
  ·rintro⟨h1,_,h3⟩
   refine⟨Kh.2 h1,λx hx=>?_⟩;cases hb:Region.binds .any x with
   | false=>exact .inl rfl
   | true=>exact .inr (h3 _ ⟨o,ho,x,by simpa using hx,hb,rfl⟩)
theorem Zd:∀(is:List Nat) (t:Array Bool) (l:List Nat) {c:Array Bool×List Nat},GX P ops is t l=c->
 ∃m,c.2=l++m/\c.1.size=t.size/\(∀j,On c.1 j↔On t j\/j∈m)/\(∀i∈m,lF P ops i=true/\i<t.size/\¬On t i)/\m.Nodup/\yN ops t [] m:=by
 intro is;induction is with
 | nil=>intro t l c h;subst h;exact⟨[],by simp [GX],rfl,by simp [GX],by simp,.nil,trivial⟩
 | cons i is ih=>
  intro t l c h;unfold GX at h;split at h
  ·rename_i hb
   rw [bW]at hb;obtain⟨zZ,hrd⟩:=hb;obtain⟨⟨hi,hun⟩,_,hw⟩:=kE.1 (QG.1 hrd);obtain⟨m,h1,h2,h3,h4,h5,h6⟩:=ih _ _ h;have hs:(t.setIfInBounds i true).size=t.size:=aBA;refine⟨i::m,by rw [h1];simp,h2.trans hs,λj=>?_,λj hj=>?_,UV.2 ⟨λhim=>?_,h5⟩,λe he=> .inl (hw e he),h6.step hi⟩
   ·rw [h3,On.set hi,dA]
    constructor
    ·rintro((h | h) | h)
     ·exact .inl h
     ·exact .inr (.inl h)
     ·exact .inr (.inr h)
    ·rintro(h | h | h)
     ·exact .inl (.inl h)
     ·exact .inl (.inr h)
     ·exact .inr h
   ·rcases dA.1 hj with rfl | hj
    ·exact⟨zZ,hi,hun⟩
    ·obtain⟨g1,g2,g3⟩:=h4 j hj
     exact⟨g1,by rw [hs]at g2;exact g2,λh=>g3 ((On.set hi).2 (.inl h))⟩
   ·exact(h4 i him).2.2 ((On.set hi).2 (.inr rfl))
  ·exact ih t l h
theorem yO(f:Nat)(t:Array Bool)(l:List Nat){c:Array Bool×List Nat}(h:GY P ops f t l=c):
 ∃m,c.2=l++m/\c.1.size=t.size/\(∀j,On c.1 j↔On t j\/j∈m)/\(∀i∈m,lF P ops i=true/\i<t.size/\¬On t i)/\m.Nodup/\yN ops t [] m:=Zd _ t l h
theorem yN.snoc{t:Array Bool}{d:Nat}:∀{l pre:List Nat},yN ops t pre l->(∀e,OC ops d e->On t e\/e∈pre\/e∈l)->yN ops t pre (l++[d]):=by
 intro l;induction l with
 | nil=>intro pre _ hd;exact⟨λe he=>(hd e he).imp id λh=>h.elim id (λh=>by cases h),trivial⟩
 | cons i l ih=>
  intro pre h hd;refine⟨h.1,ih h.2 λe he=>?_⟩;rcases hd e he with h1 | h1 | h1
  ·exact .inl h1
  ·exact .inr (.inl (.tail _ h1))
  ·rcases dA.1 h1 with rfl | h1
   ·exact .inr (.inl (.head _))
   ·exact .inr (.inr h1)
theorem yN.filter{t t2:Array Bool}{q:Nat->Bool}(ht:∀e,On t e->On t2 e):∀{l pre pre2:List Nat},yN ops t pre l->(∀e∈pre,On t2 e\/e∈pre2)->(∀e∈l,q e=false->On t2 e)->yN ops t2 pre2 (l.filter q):=by
 intro l;induction l with
 | nil=>intro _ _ _ _ _;trivial
 | cons i l ih=>
  intro pre pre2 h hp hl;cases hq:q i with
  | true=>
   rw [List.filter_cons_of_pos hq];refine⟨λe he=>(h.1 e he).elim (λh=> .inl (ht e h)) (hp e),ih h.2 (λe he=>?_) λe he=>hl e (.tail _ he)⟩;rcases dA.1 he with rfl | he
   ·exact .inr (.head _)
   ·exact(hp e he).imp id (.tail _)
  | false=>
   rw [List.filter_cons_of_neg (by simp [hq])];refine ih h.2 (λe he=>?_) λe he=>hl e (.tail _ he);rcases dA.1 he with rfl | he
   ·exact .inl (hl _ (.head _) hq)
   ·exact hp e he
theorem yN.ready{t t':Array Bool}(hsz:t'.size=ops.size)(aMm:∀j,On t j->On t' j):∀{l pre:List Nat},yN ops t pre l->(∀e∈pre,On t' e)->(∀i∈l,i<ops.size)->(∃i∈l,¬On t' i)->∃i∈l,i∈Region.ready .any ops t':=by
 intro l;induction l with
 | nil=>rintro _ _ _ _ ⟨i,hi,_⟩;cases hi
 | cons d l ih=>
  rintro pre h Gr hlt ⟨i,hi,hn⟩
  by_cases hd:On t' d
  ·have TB:i∈l:=by
    rcases dA.1 hi with rfl | h'
    ·exact absurd hd hn
    ·exact h'
   obtain⟨j,hj,hr⟩:=ih h.2 (λe he=>by
    rcases dA.1 he with rfl | he
    ·exact hd
    ·exact Gr e he) (λi hi=>hlt i (.tail _ hi)) ⟨i,TB,hn⟩
   exact⟨j,.tail _ hj,hr⟩
  ·have hds:=hlt d (.head _)
   exact⟨d,.head _,kE.2 ⟨⟨by omega,hd⟩,hds,λe he=>(h.1 e he).elim (aMm e) (Gr e)⟩⟩
def Down(ops:Array Oper)(t:Array Bool):Prop:=∀j,On t j->∀e,OC ops j e->On t e
theorem Down.set{t:Array Bool}(h:Down ops t){i:Nat}(hr:i∈Region.ready .any ops t):Down ops (t.setIfInBounds i true):=by
 obtain⟨⟨hi,_⟩,_,hw⟩:=kE.1 hr;intro j hj e he;rcases(On.set hi).1 hj with hj | rfl
 ·exact(On.set hi).2 (.inl (h j hj e he))
 ·exact(On.set hi).2 (.inl (hw e he))
def Ti(ops:Array Oper)(t:Array Bool)(acc:List Nat):Prop:=∀r m,acc[r]? =some m->(∀e,OC ops r e->On t e)->∀i,Nat.testBit m i=true->On t i
theorem aE1{t:Array Bool}{acc:List Nat}(h:Down ops t)(aE2:Ti ops t acc){r:Nat}{o:Oper}(ho:ops[r]? =some o)(hr:∀e,OC ops r e->On t e){i:Nat}(hi:Nat.testBit (Td acc o) i=true):On t i:=by
 unfold Td at hi
 have key:∀(l:List Edge) (m:Nat),(∀e∈l,e∈o.after/\Region.binds .any e=true)->(Nat.testBit m i=true->On t i)->
  Nat.testBit (l.foldl (λm e=>Nat.lor m (Nat.lor (Nat.shiftLeft 1 e.on) (acc.getD e.on 0))) m) i=true->On t i:=by
  intro l;induction l with
  | nil=>intro m _ hm hi;exact hm hi
  | cons e l ih=>
   intro m hl hm hi;refine ih _ (λx hx=>hl x (.tail _ hx)) (λhb=>?_) hi;have hb:Nat.testBit (m ||| (1 <<< e.on ||| acc.getD e.on 0)) i=true:=hb;obtain⟨h1,h2⟩:=hl e (.head _);have TE:On t e.on:=hr _ ⟨o,ho,e,h1,h2,rfl⟩;simp only [Nat.testBit_or,OZ]at hb;rcases hb with hb | hb | hb
   ·exact hm hb
   ·rw [Nat.one_shiftLeft,Nat.testBit_two_pow]at hb
    have:e.on=i:=by simpa using hb
    rw [<-this];exact TE
   ·cases ha:acc[e.on]? with
    | none=>rw [ME,ha]at hb;simp at hb
    | some m'=>
     rw [ME,ha]at hb;exact aE2 _ _ ha (h _ TE) _ hb
 refine key _ 0 (λe he=>?_) (λh=>by simp at h) hi;obtain⟨h1,h2⟩:=gE.1 he;exact⟨by simpa using h1,h2⟩
theorem aE3{t:Array Bool}(h:Down ops t):Ti ops t (Te ops):=by
 unfold Te
 have key:∀(l pre:List Oper) (acc:List Nat),ops.toList=pre++l->acc.length=pre.length->Ti ops t acc->Ti ops t (l.foldl (λacc o=>acc++[Td acc o]) acc):=by
  intro l;induction l with
  | nil=>intro pre acc _ _ aE2;exact aE2
  | cons o l ih=>
   intro pre acc he hlen aE2;refine ih (pre++[o]) _ (by rw [he];simp) (by simp [hlen]) ?_;intro r m hr hw i hi;by_cases hlt:r<acc.length
   ·rw [fB hlt]at hr
    exact aE2 r m hr hw i hi
   ·rw [iG (by omega)]at hr
    have hr0:r=acc.length:=by
     rcases zJ (r-acc.length) 1 with h1 | h1
     ·omega
     ·rw [GH (by simpa using h1)]at hr;cases hr
    subst hr0;simp at hr;subst hr;refine aE1 h aE2 ?_ hw hi;have:ops.toList[acc.length]? =some o:=by rw [he,hlen];simp
    simpa using this
 exact key _ [] [] rfl rfl (λr m hr=>by simp at hr)
theorem Down.UB{t:Array Bool}(h:Down ops t):∀(f r i:Nat),(∀e,OC ops r e->On t e)->UB ops f r i=true->On t i:=by
 intro f r i hr hn;unfold Am.UB at hn;cases ha:(Te ops)[r]? with
 | none=>rw [ME,ha]at hn;simp at hn
 | some m=>
  rw [ME,ha]at hn;exact aE3 h r m ha hr i hn
end
section
variable{P:Program}{ops:Array Oper}{n0:Nat}{U:Rn}{a:Act}{w:World}
theorem EF.put(rY:Plain ops){p:Nat×Option Nat}(h:EF P ops n0 U a w p){d:Option Tmp}{v:Value}(hd:∀o,ops[p.1]? =some o->∀t,d=some t->t∉o.looksAt ops/\o.dst≠some t)
 (hd2:∀j q,eZ P ops p.1=some j->ops[j]? =some q->∀t,d=some t->t∉q.looksAt ops/\q.dst≠some t):EF P ops n0 U (a.put d v) w p:=by
 cases h with
 | @pure i o e v' ho he hp ha hr=>
  refine .pure ho he hp (λu hu=>ha u ?_) λw'=>?_
  ·rw [sC]at hu
   ·exact hu
   ·intro h;exact(hd o ho e h).2 he
  ·rw [execOp_put o (rY _ o ho).1 a d v (λt ht=>(hd o ho t ht).1)];exact hr w'
 | @mk i o e ob mkv b ho he hp ha hr hb hw hf=>
  refine .mk ho he hp (λu hu=>ha u ?_) (λw'=>?_) hb hw hf
  ·rw [sC]at hu
   ·exact hu
   ·intro h;exact(hd o ho e h).2 he
  ·rw [execOp_put o (rY _ o ho).1 a d v (λt ht=>(hd o ho t ht).1)];exact hr w'
 | @conv i j o q e t v' ob mkv b ho he hc hq Zb ha AX hrq hr hb hw hf=>
  refine .conv ho he hc hq Zb (λu hu=>ha u ?_) (λu hu=>AX u ?_) (λw'=>?_) (λw' hw'=>?_) hb hw hf
  ·rw [sC]at hu
   ·exact hu
   ·intro h;exact(hd o ho e h).2 he
  ·rw [sC]at hu
   ·exact hu
   ·intro h;exact(hd2 j q hc hq t h).2 Zb
  ·rw [execOp_put q (rY _ q hq).1 a d v (λt ht=>(hd2 j q hc hq t ht).1)];exact hrq w'
  ·rw [execOp_put o (rY _ o ho).1 a d v (λt ht=>(hd o ho t ht).1)];exact hr w' hw'
theorem EF.stp{p:Nat×Option Nat}(h:EF P ops n0 U a w p){U':Rn}{w':World}(hs:uI U w U' w'):EF P ops n0 U' a w' p:=by
 have key:∀{b:Nat} {ob:Obj},w.heap[b]? =some ob->(∀i L,U i=some L->L.b≠b)->w'.heap[b]? =some ob/\∀i L,U' i=some L->L.b≠b:=by
  intro b ob hw hf;have hlt:b<w.heap.size:=(nN.1 hw).1;refine⟨(hs.fr.2 b hlt hf).trans hw,λi L hi=>?_⟩;rcases hs.nw i L hi with h1 | h1 | ⟨j,M,h1,h2⟩
  ·exact hf i L h1
  ·omega
  ·rw [<-h2];exact hf j M h1
 cases h with
 | pure ho he hp ha hr=>exact .pure ho he hp ha hr
 | mk ho he hp ha hr hb hw hf=>exact .mk ho he hp ha hr hb (key hw hf).1 (key hw hf).2
 | conv ho he hc hq Zb ha AX hrq hr hb hw hf=>exact .conv ho he hc hq Zb ha AX hrq hr hb (key hw hf).1 (key hw hf).2
theorem Rel.grow{w0:World}{S:St}(h:Rel P w0 U S w)(ob:Obj):Rel P w0 U S (w.alloc ob):=by
 have hold:∀k,k<w.heap.size->(w.alloc ob).heap[k]? =w.heap[k]? :=λk hk=>by show(w.heap.push ob)[k]? =_;rw [UP,if_neg (by omega)]
 have hsz:(w.alloc ob).heap.size=w.heap.size+1:=Ru _
 exact⟨h.Gl,λi o hi=>(h.GO i o hi).frame (.refl U) λL hL=>hold _ (h.loc i L hL),h.Xc,h.lt,λi L hL=>by have:=h.loc i L hL;omega,h.sep,h.old,
  ⟨h.base.os,h.base.tape,h.base.output,by have:=h.base.size;omega,λk hk=>(hold k (DV hk h.base.size)).trans (h.base.block k hk)⟩⟩
theorem uI.grow{U0:Rn}{wa:World}(h:uI U0 wa U w)(ob:Obj):uI U0 wa U (w.alloc ob):=by
 have hsz:(w.alloc ob).heap.size=w.heap.size+1:=Ru _;refine⟨h.ext,⟨by have:=h.fr.1;omega,λc hc hn=>?_⟩,h.nw⟩;rw [<-h.fr.2 c hc hn];show(w.heap.push ob)[c]? =_;rw [UP,if_neg (by have:=h.fr.1;omega)]
theorem EF.grow{p:Nat×Option Nat}(h:EF P ops n0 U a w p)(ob:Obj):EF P ops n0 U a (w.alloc ob) p:=by
 refine h.stp ⟨.refl U,⟨by have:(w.alloc ob).heap.size=w.heap.size+1:=Ru _;omega,λc hc _=>?_⟩,λ_ _ h=> .inl h⟩;show(w.heap.push ob)[c]? =_;rw [UP,if_neg (by omega)]
theorem xX.aMn{A:aO}(h:xX P U A a){d:Tmp}(hd:A.tmps.t.get d=none)(v:Value):xX P U A (a.put (some d) v):=by
 refine⟨⟨?_,λk x hx=>?_⟩,h.g⟩
 ·show _=(a.tmps.setIfInBounds d v).toList.length
  rw [UM,List.length_set];exact h.tmps.1
 ·obtain⟨y,hy,hr⟩:=h.tmps.2 k x hx
  refine⟨y,?_,hr⟩;show(a.tmps.setIfInBounds d v).toList[k]? =_;rw [UM,UO (λe=>by subst e;rw [hd]at hx;cases hx)];exact hy
theorem aE4{A:aO}{o:Oper}{k:Bool}(h:aB1 A o k=true):∃d,o.dst=some d/\A.tmps.t.get d=none/\k=true:=by
 unfold aB1 at h;split at h
 ·rename_i d hd
  refine⟨d,hd,?_⟩;rw [lV]at h;cases hg:A.tmps.t.get d with
  | none=>rw [hg]at h;exact⟨rfl,h⟩
  | some x=>rw [hg]at h;cases h
 ·cases h
end
section
variable{E:Env}{w0:World}{ops:Array Oper}
theorem aE5{A:aO}{S:St}:∀{l:List (Nat×List Nat)} {k:Bool},OR E ops A S l k=true->
 k=true/\∀p∈l,∃o d,ops[p.1]? =some o/\o.dst=some d/\A.tmps.t.get d=none/\nI E ops p.2 A S (λA S=>EC E ops p.1 o A S λ_ _=>true)=true:=by
 intro l;induction l with
 | nil=>intro k h;exact⟨h,by simp⟩
 | cons p l ih=>
  intro k h;unfold OR at h;rw [aS]at h;split at h
  ·rename_i o ho
   obtain⟨d,hd,hg,h⟩:=aE4 h;cases hb:nI E ops p.2 A S (λA S=>EC E ops p.1 o A S λ_ _=>true)with
   | false=>rw [hb]at h;cases h
   | true=>
    rw [hb]at h;obtain⟨h1,h2⟩:=ih h;refine⟨h1,λq hq=>?_⟩;rcases dA.1 hq with rfl | hq
    ·exact⟨o,d,ho,hd,hg,hb⟩
    ·exact h2 q hq
  ·cases h
theorem YG{P:Program}{i:Nat}{o:Oper}(ho:ops[i]? =some o)(h:lF P ops i=true):o.guard=none:=by
 unfold lF at h;rw [ho]at h;simp only [OZ]at h;rcases h with h | h
 ·unfold Kf at h
  simp only [bW,Im]at h;exact h.1
 ·obtain⟨j,hj⟩:=Ax.1 h
  obtain⟨o2,_,_,wK,_,hg,_⟩:=mQ hj;rw [ho]at wK;injection wK with wK;subst wK;exact hg
theorem aE6{U:Rn}{a:Act}{S:St}{A:aO}{w wa:World}(rY:Plain ops)(_hs:SR E.P w0 U A a S w)(hw0:w0.heap.size<=wa.heap.size)(XD:wa.heap.size<=w.heap.size)(aP0:∀i L,U i=some L->L.b<w.heap.size)
 {i:Nat} {o:Oper} {d:Tmp} (ho:ops[i]? =some o) (hd:o.dst=some d) (IV:d∉o.looksAt ops) (zZ:lF E.P ops i=true) {X:List (Nat×Option Nat)}
 {U1:Rn} {A1:aO} {S1:St} (TX:SR E.P w0 U1 A1 a S1 w) (Ze:∀j,eZ E.P ops i=some j->∃b,(j,some b)∈X/\EF E.P ops wa.heap.size U a w (j,some b)/\EF E.P ops wa.heap.size U1 a w (j,some b)/\∀q,ops[j]? =some q->d∉q.looksAt ops/\q.dst≠some d)
 (hk:EC E ops i o A1 S1 (λ_ _=>true)=true) {U0:Rn} (aRt:uI U0 wa U w):
 ∃v' wn ob,(execOp a.eval o).run E.P w= .ok (.value v') wn/\(wn=w\/∃x,wn=w.alloc x)/\EF E.P ops wa.heap.size U (a.put o.dst v') wn (i,ob)/\(∀b,ob=some b->(eZ E.P ops i=none/\b=w.heap.size)\/∃j,eZ E.P ops i=some j/\(j,some b)∈X):=by
 have pX:∀v',execOp (a.put o.dst v').eval o=execOp a.eval o:=λv'=>execOp_put o (rY _ o ho).1 a o.dst v' (λt ht=>by rw [hd]at ht;injection ht with ht;subst ht;exact IV);cases hcv:eZ E.P ops i with
 | some j=>
  obtain⟨b,hX,he0,Tj,hap⟩:=Ze j hcv;obtain⟨o2,q2,t,wK,hco,hg,_,Xg,hm,hg2,Tf,_⟩:=mQ hcv;rw [ho]at wK;injection wK with wK;subst wK
  have aOt:eZ E.P ops j=none:=by
   cases h:eZ E.P ops j with
   | none=>rfl
   | some j2=>
    obtain⟨o3,_,t3,ho3,aP1,_⟩:=mQ h;rw [Xg]at ho3;injection ho3 with ho3;subst ho3;rw [(DA aP1).2.2.2]at hm;cases hm
  generalize hp0:(j,some b)=p0 at he0 Tj;cases he0 with
  | pure=>injection hp0 with _ h;cases h
  | conv _ _ hc=>injection hp0 with h _;subst h;rw [aOt]at hc;cases hc
  | @mk j' q t' ob mkv b' hq Zb hp ha hr hb hw hf=>
   injection hp0 with h1 h2;injection h2 with h2;subst h1 h2;rw [Xg]at hq;injection hq with hq;subst hq;rw [Tf]at Zb;injection Zb with Zb;subst Zb
   have hf1:∀i L,U1 i=some L->L.b≠b:=by
    cases Tj with
    | mk _ _ _ _ _ _ _ hf=>exact hf
    | conv _ _ hc=>rw [aOt]at hc;cases hc
   obtain⟨v',_,Nm,dF⟩:=Zc TX ho hcv Xg Tf ha hr (tP hw0 hb) hw hf1 hk;refine⟨v',w,some b,dF w hw,.inl rfl,.conv ho hd hcv Xg Tf (λu hu=>?_) (λu hu=>ha u ?_) (λw'=>?_) (λw' hw'=>by rw [pX];exact dF w' hw') hb hw hf,λb' TU=> .inr ⟨j,rfl,by injection TU with TU;subst TU;exact hX⟩⟩
   ·rw [hd]at hu
    exact CO u hu
   ·rw [sC]at hu
    ·exact hu
    ·rw [hd];intro e;injection e with e;subst e;exact(hap _ Xg).2 Tf
   ·rw [execOp_put q2 (rY _ q2 Xg).1 a o.dst v' (λt ht=>by rw [hd]at ht;injection ht with ht;subst ht;exact(hap _ Xg).1)];exact hr w'
 | none=>
 have zZ:Kf E.P o=true:=by
  unfold lF at zZ;rw [ho]at zZ;simp only [hcv,Iu,Bool.or_false]at zZ;exact zZ
 unfold EC at hk;rw [hcv]at hk;have hk:wW E o A1 S1 (λ_ _=>true)=true:=hk;cases hp:pY E.P o with
 | true=>
  obtain⟨v,v',_,_,hr⟩:=MU TX.rel TX.act hp hk;refine⟨v',w,none,hr w,.inl rfl,.pure ho hd hp (λu hu=>?_) (λw'=>by rw [pX];exact hr w'),λb h=>by cases h⟩;rw [hd]at hu;exact CO u hu
 | false=>
  have hal:FN o=true:=by
   unfold Kf at zZ;rw [hp]at zZ;simp only [bW,Bool.false_and,Bool.false_or]at zZ;exact zZ.2.2
  obtain⟨v,obj,ob,mk,_,M⟩:=VP TX.rel TX.act hal hk;refine⟨mk w.heap.size,w.alloc ob,some w.heap.size,M.run w,.inr ⟨ob,rfl⟩,.mk ho hd hal (λu hu=>?_) (λw'=>by rw [pX];exact M.run w') XD ?_ (λi L hi=>?_),λb h=> .inl ⟨rfl,by injection h with h;exact h.symm⟩⟩
  ·rw [hd]at hu
   exact CO u hu
  ·show(w.heap.push ob)[w.heap.size]? =_;simp
  ·have:=aP0 i L hi;omega
theorem aJV{ro:Option Nat}{P:Program}{Q:Exit->Act->World->Prop}{i:Nat}{o:Oper}{v:Value}{a:Act}{w wn:World}(rY:Plain ops)(hi:ops[i]? =some o)(hg:o.guard=none)(hr:(execOp a.eval o).run P w= .ok (.value v) wn)
 {K:Act->World->Prop} (hk:K (a.put o.dst v) wn):wpOpIn (NZ ro) 0 P ops Q i K a w:=by
 have hw:Region.wanted o (yielded ops a.tmps)=true:=by unfold Region.wanted;rw [hg]
 unfold wpOpIn;simp only [hi,hw,if_true,Oper.wpIn,Oper.semAt_eq _ _ _ (rY i o hi).2,hr,Oper.uponIn];exact⟨λ_ _=>trivial,hk⟩
end
section
variable{E:Env}{w0:World}{ops:Array Oper}
theorem Og{d:Nat}{o:Oper}(h:zY ops d=true)(ho:ops[d]? =some o){j:Nat}{q:Oper}{e:Tmp}(hj:j≠d)(hq:ops[j]? =some q)(he:q.dst=some e):
 o.dst≠some e/\(e∈o.looksAt ops->UB ops ops.size d j=true):=by
 unfold zY at h;rw [ho]at h;have hlt:j<ops.size:=(nN.1 hq).1;have h1:=dJ.1 h j (PC.2 hlt);simp only [hq,he,OZ,beq_iff_eq,bW,bne_iff_ne,xR,ne_eq]at h1;rcases h1 with h1 | ⟨h1,h2⟩
 ·exact absurd h1 hj
 ·refine⟨h1,λhm=>?_⟩
  rcases h2 with h2 | h2
  ·exfalso
   revert h2;simp [hm]
  ·exact h2
def rem(t:Array Bool):Nat:=(List.range t.size).countP λj=> !t.getD j false
theorem Tk{t:Array Bool}{i m:Nat}(hi:i<t.size)(hn:¬On t i)(h:rem t<=m+1):rem (t.setIfInBounds i true)<=m:=by
 have hlt:rem (t.setIfInBounds i true)<rem t:=by
  unfold rem;rw [show(t.setIfInBounds i true).size=t.size from aBA]
  have key:∀l:List Nat,(l.countP λj=> !(t.setIfInBounds i true).getD j false)<=(l.countP λj=> !t.getD j false)/\(i∈l->(l.countP λj=> !(t.setIfInBounds i true).getD j false)<(l.countP λj=> !t.getD j false)):=by
   intro l;induction l with
   | nil=>exact⟨bI _,λh=>by cases h⟩
   | cons j l ih=>
    by_cases e:j=i
    ·subst e
     have h1:(t.setIfInBounds j true).getD j false=true:=(On.set hi).2 (.inr rfl);have h2:t.getD j false=false:=by simpa [On]using hn
     simp only [List.countP_cons,h1,h2];have h3:=ih.1;simp only [eH,iH,if_true,bQ,if_false];exact⟨by omega,λ_=>by omega⟩
    ·have h1:(t.setIfInBounds i true).getD j false=t.getD j false:=by
      have h1:(t.setIfInBounds i true)[j]? =t[j]? :=by rw [aBx (dB e)]
      simp [h1]
     simp only [List.countP_cons,h1];refine⟨by have:=ih.1;omega,λhm=>?_⟩;rcases dA.1 hm with h | h
     ·exact absurd h.symm e
     ·have:=ih.2 h;omega
  exact(key _).2 (PC.2 hi)
 omega
theorem Ki{t:Array Bool}(h:rem t<=0){i:Nat}(hi:i<t.size):On t i:=by
 unfold rem at h;have h0:=List.countP_eq_zero.1 (Nat.le_zero.1 h) i (PC.2 hi);simpa [On]using h0
structure Inv(E:Env)(w0:World)(ops:Array Oper)(U0:Rn)(wa:World)(L:Array Bool)(taken:List Nat)(m:Nat)(L':Array Bool)(X:List (Nat×Option Nat))(J:List (Nat×Value))(U:Rn)(A:aO)(a:Act)(S:St)(w:World):Prop where
 hs:SR E.P w0 U A a S w
 stp:uI U0 wa U w
 szL:L.size=ops.size
 sz:L'.size=ops.size
 on:∀j,On L' j↔On L j\/∃p∈X,p.1=j
 down:Down ops L'
 xf:∀p∈X,EF E.P ops wa.heap.size U a w p
 xl:∀p∈X,zY ops p.1=true/\lF E.P ops p.1=true/\¬On L p.1
 xd:∀p∈X,∀q∈X,p.1=q.1->p=q
 xb:∀p∈X,∀q∈X,∀b,p.2=some b->q.2=some b->EB E.P ops p.1=false->eZ E.P ops p.1=none->p=q
 xs:∀p∈X,∀j,eZ E.P ops p.1=some j->∃q∈X,q.1=j
 lg:∀j,On L j->EB E.P ops j=false
 jf:∀p∈J,p.1∈taken/\Kn E.P ops a w p
 fuel:rem L'<=m
 xr:yN ops L [] (X.map Prod.fst).reverse
 jx:∀p∈J,∀q∈X,dep ops q.1 p.1=false
theorem Inv.apart{U0:Rn}{wa:World}{L:Array Bool}{taken:List Nat}{m:Nat}{L':Array Bool}{X:List (Nat×Option Nat)}{J:List (Nat×Value)}{U:Rn}{A:aO}{a:Act}{S:St}{w:World}
 (h:Inv E w0 ops U0 wa L taken m L' X J U A a S w) {j:Nat} {q:Oper} (hq:ops[j]? =some q) (hj:¬On L' j) {p:Nat×Option Nat} (hp:p∈X):
 ∀o,ops[p.1]? =some o->∀t,q.dst=some t->t∉o.looksAt ops/\o.dst≠some t:=by
 intro o ho t ht;have TE:On L' p.1:=(h.on _).2 (.inr ⟨p,hp,rfl⟩);have wC:j≠p.1:=λe=>hj (e▸TE);obtain⟨h1,h2⟩:=Og (h.xl p hp).1 ho wC hq ht;exact⟨λhm=>hj (h.down.UB _ _ _ (h.down _ TE) (h2 hm)),h1⟩
theorem Inv.aB2{U0:Rn}{wa:World}{L:Array Bool}{taken:List Nat}{m:Nat}{L':Array Bool}{X:List (Nat×Option Nat)}{J:List (Nat×Value)}{U:Rn}{A:aO}{a:Act}{S:St}{w:World}
 (h:Inv E w0 ops U0 wa L taken m L' X J U A a S w) {j:Nat} {q:Oper} (hq:ops[j]? =some q) (hj:¬On L' j) {p:Nat×Option Nat} (hp:p∈X):
 ∀i r,eZ E.P ops p.1=some i->ops[i]? =some r->∀t,q.dst=some t->t∉r.looksAt ops/\r.dst≠some t:=by
 intro i r hi hr;obtain⟨p',hp',rfl⟩:=h.xs p hp i hi;exact h.apart hq hj hp' r hr
theorem YH{P:Program}{i:Nat}{o:Oper}(ho:ops[i]? =some o)(h:neutral P o=true):EB P ops i=false/\eZ P ops i=none:=by
 constructor
 ·cases hg:EB P ops i with
  | false=>rfl
  | true=>
   obtain⟨q,hq,hm⟩:=aEZ hg;rw [ho]at hq;injection hq with hq;subst hq;unfold neutral at h;rw [Eu hm]at h
   have:zW o=false:=by
    unfold GW at hm;unfold zW;split at hm
    ·rename_i h1;rw [h1]
    ·cases hm
   rw [this]at h;cases h
 ·cases hc:eZ P ops i with
  | none=>rfl
  | some j=>
   obtain⟨o2,_,t,wK,hco,_⟩:=mQ hc;rw [ho]at wK;injection wK with wK;subst wK;unfold neutral at h;rw [(DA hco).1,(DA hco).2.2.1]at h;cases h
theorem aE7{P:Program}{j:Nat}(h:EB P ops j=true):lF P ops j=true:=by
 unfold EB at h;simp only [bW]at h;obtain⟨i,_,hi⟩:=Ix.1 h.2;have hi:eZ P ops i=some j:=by simpa using hi
 obtain⟨_,q,t,_,_,_,_,hq,hm,hg,hd,_⟩:=mQ hi;unfold lF;rw [hq];unfold Kf;simp [hg,hd,YD hm]
end
section
variable{E:Env}{w0:World}{ops:Array Oper}
theorem Inv.early{ro:Option Nat}{Q:Exit->Act->World->Prop}{U0:Rn}{wa:World}{L:Array Bool}{taken:List Nat}{m:Nat}{L':Array Bool}{X:List (Nat×Option Nat)}{J:List (Nat×Value)}{U:Rn}{A:aO}{a:Act}{S:St}{w:World}
 (rY:Plain ops) (XD:w0.heap.size<=wa.heap.size) (h:Inv E w0 ops U0 wa L taken (m+1) L' X J U A a S w) {d:Nat} {o:Oper} (ho:ops[d]? =some o) (rJ:d∈Region.ready .any ops L') (zZ:lF E.P ops d=true)
 (ES:zY ops d=true) (IV:BV ops o=true) (pZ:∀p∈taken,dep ops d p=false->leaves ops o p=true) {yC:List Nat} {k:Bool} (Tn:wL E ops A S yC k=true) (Yt:∀i∈yC,jD ops i=true)
 (zA:∀i∈taken,jD ops i=true->i∈yC) {e:Tmp} (hd:o.dst=some e) (aMo:A.tmps.t.get e=none) {c:List Nat} (Gr:nI E ops c A S (λA S=>EC E ops d o A S λ_ _=>true)=true)
 (hc:∀i∈c,∃p∈X,p.1=i) (hcg:∀i∈c,EB E.P ops i=false) (hcn:c.Nodup) {K:Act->World->Prop}
 (hK:∀a' w' X',Inv E w0 ops U0 wa L taken m (L'.setIfInBounds d true) X' (J.filter λp=> !dep ops d p.1) U A a' S w'->K a' w'):wpOpIn (NZ ro) 0 E.P ops Q d K a w:=by
 obtain⟨U1,A1,S1,Tg,TX,_,hX1,_⟩:=MW XD c Gr h.hs h.stp hc hcg h.xf h.xb hcn;obtain⟨⟨aOu,hdn⟩,_,hdw⟩:=kE.1 rJ
 have Ze:∀j,eZ E.P ops d=some j->∃b,(j,some b)∈X/\EF E.P ops wa.heap.size U a w (j,some b)/\EF E.P ops wa.heap.size U1 a w (j,some b)/\∀q,ops[j]? =some q->e∉q.looksAt ops/\q.dst≠some e:=by
  intro j hj;obtain⟨_,q,t,_,_,_,_,hq,hm,_,_,aJP⟩:=mQ hj;have TE:On L' j:=hdw j (aDJ.1 aJP);have hgj:=Hm hj;rcases(h.on j).1 TE with h1 | ⟨⟨j',ob⟩,hp,h1⟩
  ·rw [h.lg j h1]at hgj;cases hgj
  ·have h1:j'=j:=h1
   subst h1;have hef:=h.xf _ hp;have hap:=h.apart ho hdn hp;have hjc:j'∉c:=λhm=>by rw [hcg _ hm]at hgj;cases hgj
   cases ob with
   | none=>
    exfalso;cases hef with
    | pure Xg _ hpu _ _=>
     rw [hq]at Xg;injection Xg with Xg;subst Xg;rw [Eu hm]at hpu;cases hpu
   | some b=>exact⟨b,hp,hef,hX1 _ hp hjc,λq hq=>hap q hq e hd⟩
 obtain⟨v',wn,ob,hr,hwn,hef,hob⟩:=aE6 rY h.hs XD h.stp.fr.1 h.hs.rel.loc ho hd (QC IV e hd) zZ (X:=X) TX Ze Tg h.stp;have hg:o.guard=none:=YG ho zZ;have aP2:(a.put o.dst v').defers=a.defers:=by rw [hd];rfl
 have hsr:SR E.P w0 U A (a.put o.dst v') S wn:=by
  refine⟨by rw [hd];exact h.hs.act.aMn aMo v',?_,by rw [aP2];exact h.hs.marks⟩;rcases hwn with rfl | ⟨x,rfl⟩
  ·exact h.hs.rel
  ·exact h.hs.rel.grow x
 refine aJV rY ho hg hr (hK _ _ ((d,ob)::X) ⟨hsr,?_,h.szL,Array.size_setIfInBounds.trans h.sz,λj=>?_,h.down.set rJ,λp hp=>?_,λp hp=>?_,λp hp q hq hpq=>?_,λp hp q hq b Kc TC hg1 hc1=>?_,λp hp j hj=>?_,h.lg,λp hp=>?_,Tk aOu hdn h.fuel,?_,λp hp q hq=>?_⟩)
 ·rcases hwn with rfl | ⟨x,rfl⟩
  ·exact h.stp
  ·exact h.stp.grow x
 ·rw [On.set aOu,h.on]
  constructor
  ·rintro((h1 | ⟨p,hp,h1⟩) | h1)
   ·exact .inl h1
   ·exact .inr ⟨p,.tail _ hp,h1⟩
   ·exact .inr ⟨_,.head _,h1.symm⟩
  ·rintro(h1 | ⟨p,hp,h1⟩)
   ·exact .inl (.inl h1)
   ·rcases dA.1 hp with rfl | hp
    ·exact .inr h1.symm
    ·exact .inl (.inr ⟨p,hp,h1⟩)
 ·rcases dA.1 hp with rfl | hp
  ·exact hef
  ·have h1:=(h.xf p hp).put rY (d:=o.dst) (v:=v') (h.apart ho hdn hp) (h.aB2 ho hdn hp)
   rcases hwn with rfl | ⟨x,rfl⟩
   ·exact h1
   ·exact h1.grow x
 ·rcases dA.1 hp with rfl | hp
  ·refine⟨ES,zZ,λh1=>hdn ((h.on _).2 (.inl h1))⟩
  ·exact h.xl p hp
 ·have hX:∀p∈X,p.1≠d:=λp hp e=>hdn ((h.on _).2 (.inr ⟨p,hp,e⟩))
  rcases dA.1 hp with rfl | hp<;>rcases dA.1 hq with rfl | hq
  ·rfl
  ·exact absurd hpq.symm (hX q hq)
  ·exact absurd hpq (hX p hp)
  ·exact h.xd p hp q hq hpq
 ·have hX:∀p∈X,∀b,p.2=some b->b<w.heap.size:=λp hp b hb=>by
   have:=h.xf p hp;cases this with
   | pure=>cases hb
   | mk _ _ _ _ _ _ hw _=>injection hb with hb;subst hb;exact(nN.1 hw).1
   | conv _ _ _ _ _ _ _ _ _ _ hw _=>injection hb with hb;subst hb;exact(nN.1 hw).1
  rcases dA.1 hp with rfl | hp<;>rcases dA.1 hq with rfl | hq
  ·rfl
  ·rcases hob b Kc with ⟨_,e1⟩ | ⟨j,hj,_⟩
   ·have:=hX q hq b TC;omega
   ·have hc1:eZ E.P ops d=none:=hc1
    rw [hj]at hc1;cases hc1
  ·rcases hob b TC with ⟨_,e1⟩ | ⟨j,hj,hjX⟩
   ·have:=hX p hp b Kc;omega
   ·have e2:=h.xb p hp _ hjX b Kc rfl hg1 hc1
    rw [e2]at hg1;have hg1:EB E.P ops j=false:=hg1;rw [Hm hj]at hg1;cases hg1
  ·exact h.xb p hp q hq b Kc TC hg1 hc1
 ·rcases dA.1 hp with rfl | hp
  ·obtain⟨b,hb,_⟩:=Ze j hj
   exact⟨_,.tail _ hb,rfl⟩
  ·obtain⟨q,hq,e1⟩:=h.xs p hp j hj
   exact⟨q,.tail _ hq,e1⟩
 ·obtain⟨hp,hdp⟩:=gE.1 hp
  obtain⟨hpt,hkn⟩:=h.jf p hp;refine⟨hpt,?_⟩;have hlv:=pZ p.1 hpt (by simpa using hdp);rcases hkn with ⟨q,k1,k2,k3⟩ | ⟨q,d',k1,k2,k3,k4,k5⟩
  ·exact .inl ⟨q,k1,k2,λw=>(Yl.put rY (λq hq t ht=>(vB hlv hq t ht).1)).2 (k3 w)⟩
  ·have lN:jD ops p.1=true:=by unfold jD;rw [k1];simp [k2,k4]
   obtain⟨_,h2⟩:=VO hsr Tn Yt;obtain⟨o2,d2,u',z1,z2,z3,z4⟩:=h2 p.1 (zA _ hpt lN);rw [k1]at z1;injection z1 with z1;subst z1;rw [k4]at z2;injection z2 with z2;subst z2;have wC:o.dst≠some d':=λe=>(vB hlv k1 d' e).2 k4;have hu:u'=p.2:=k5 u' (by rw [<-z3,sC wC]);subst hu;refine .inr ⟨q,d',k1,k2,z4,k4,λu hu=>?_⟩;rw [z3]at hu;injection hu with hu;exact hu.symm
 ·rw [xU,List.reverse_cons]
  refine h.xr.snoc λe he=>?_;rcases(h.on e).1 (hdw e he)with h1 | ⟨p,hp,h1⟩
  ·exact .inl h1
  ·exact .inr (.inr (UT.2 (mF.2 ⟨p,hp,h1⟩)))
 ·obtain⟨hp,hdp⟩:=gE.1 hp
  rcases dA.1 hq with rfl | hq
  ·simpa using hdp
  ·exact h.jx p hp q hq
end
section
variable{E:Env}{w0:World}{ops:Array Oper}
theorem Inv.Zf{ro:Option Nat}{Q:Exit->Act->World->Prop}(hQp:∀c a w,¬Q (.panic c) a w){U0:Rn}{wa:World}{L:Array Bool}{taken:List Nat}{m:Nat}{L':Array Bool}{X:List (Nat×Option Nat)}{J:List (Nat×Value)}{U:Rn}{A:aO}{a:Act}{S:St}{w:World}
 (rY:Plain ops) (XD:w0.heap.size<=wa.heap.size) {i:Nat} {o:Oper} (ho:ops[i]? =some o) (aGT:i∈Region.ready .any ops L) (VQ:neutral E.P o=true) (ES:Region.free .any ops L i=true) (IV:BV ops o=true)
 (pZ:taken.all (leaves ops o)=true) (pQ:(pY E.P o || jD ops i)=true) {rest:aO->St->Bool} (hk:VD E ops o A S rest=true)
 (ih:∀{m:Nat} {L':Array Bool} {X:List (Nat×Option Nat)} {J:List (Nat×Value)} {U:Rn} {A:aO} {a:Act} {S:St} {w:World},rest A S=true->Inv E w0 ops U0 wa (L.setIfInBounds i true) (i::taken) m L' X J U A a S w->zV ro E.P ops Q m J L' a w)
 (h:Inv E w0 ops U0 wa L taken m L' X J U A a S w):zV ro E.P ops Q m J L' a w:=by
 obtain⟨⟨Kj,PU⟩,_,hiw⟩:=kE.1 aGT;by_cases TE:On L' i
 ·
   rcases(h.on i).1 TE with h1 | ⟨p,hp,hpi⟩
   ·exact absurd h1 PU
   ·have zZ:lF E.P ops i=true:=by
     have:=(h.xl p hp).2.1;rw [hpi]at this;exact this
    have hg:o.guard=none:=YG ho zZ;obtain⟨hng,hnc⟩:=YH ho VQ
    have hk:nI E ops [i] A S rest=true:=by
     unfold VD zP at hk;rw [hg]at hk;unfold nI;rw [aS];simp only [ho];unfold EC;rw [hnc];exact hk
    obtain⟨U',A',S',g1,g2,g3,g4,g5⟩:=MW XD [i] hk h.hs h.stp (λj hj=>⟨p,hp,hpi.trans (Ay.1 hj).symm⟩) (λj hj=>by rw [Ay.1 hj];exact hng) h.xf h.xb (by simp);have hX:∀q,q∈X.filter (λq=>q.1 != i)↔q∈X/\q.1≠i:=λq=>by rw [gE];simp
    refine ih g1 (X:=X.filter λq=>q.1 != i) ⟨g2,g3,Array.size_setIfInBounds.trans h.szL,h.sz,λj=>?_,h.down,λq hq=>?_,λq hq=>?_,λq hq r hr=>h.xd q ((hX q).1 hq).1 r ((hX r).1 hr).1,λq hq r hr=>h.xb q ((hX q).1 hq).1 r ((hX r).1 hr).1,λq hq j hj=>?_,λj hj=>?_,λq hq=>⟨.tail _ (h.jf q hq).1,(h.jf q hq).2⟩,h.fuel,?_,λq hq r hr=>h.jx q hq r ((hX r).1 hr).1⟩
    ·rw [h.on,On.set Kj]
     constructor
     ·rintro(h1 | ⟨q,hq,h1⟩)
      ·exact .inl (.inl h1)
      ·by_cases e:j=i
       ·exact .inl (.inr e)
       ·exact .inr ⟨q,(hX q).2 ⟨hq,by rw [h1];exact e⟩,h1⟩
     ·rintro((h1 | h1) | ⟨q,hq,h1⟩)
      ·exact .inl h1
      ·exact .inr ⟨p,hp,hpi.trans h1.symm⟩
      ·exact .inr ⟨q,((hX q).1 hq).1,h1⟩
    ·exact g4 q ((hX q).1 hq).1 (by simpa using((hX q).1 hq).2)
    ·obtain⟨x1,x2,x3⟩:=h.xl q ((hX q).1 hq).1
     refine⟨x1,x2,λhh=>?_⟩;rcases(On.set Kj).1 hh with hh | hh
     ·exact x3 hh
     ·exact((hX q).1 hq).2 hh
    ·obtain⟨r,hr,hrj⟩:=h.xs q ((hX q).1 hq).1 j hj
     refine⟨r,(hX r).2 ⟨hr,λe=>?_⟩,hrj⟩;have:=Hm hj;rw [<-hrj,e,hng]at this;cases this
    ·rcases(On.set Kj).1 hj with hj | hj
     ·exact h.lg j hj
     ·rw [hj];exact hng
    ·have e1:((X.filter λq=>q.1 != i).map Prod.fst).reverse=(X.map Prod.fst).reverse.filter λj=>j != i:=by
      rw [List.filter_reverse,List.filter_map];rfl
     rw [e1];refine h.xr.filter (λe he=>(On.set Kj).2 (.inl he)) (λe he=>by cases he) λe _ he=>(On.set Kj).2 (.inr (by simpa using he))
 ·have aDK:i<L'.size:=by rw [h.sz,<-h.szL];exact Kj
  have aLH:i∈Region.ready .any ops L':=kE.2 ⟨⟨aDK,TE⟩,by rw [<-h.szL];exact Kj,λe he=>(h.on e).2 (.inl (hiw e he))⟩;cases m with
  | zero=>exact absurd (Ki h.fuel aDK) TE
  | succ m=>
   have hs:=h.hs;unfold VD at hk;have hk:=MS hs.act hk;have aGU:∀(v:Value) (w:World),Yl E.P ops i v a w->Yl E.P ops i v (a.put o.dst v) w:=λv w h=>(Yl.put rY (λo' TD t ht=>by rw [ho]at TD;injection TD with TD;subst TD;exact QC IV t ht)).2 h
   have hold:∀(v:Value),∀p∈J,Kn E.P ops a w p->Kn E.P ops (a.put o.dst v) w p:=by
    intro v p hp hh;have hlv:=dJ.1 pZ p.1 (h.jf p hp).1;have pX:∀w,Yl E.P ops p.1 p.2 a w->Yl E.P ops p.1 p.2 (a.put o.dst v) w:=λw h=>(Yl.put rY (λq hq t ht=>(vB hlv hq t ht).1)).2 h;rcases hh with ⟨q,h1,h2,h3⟩ | ⟨q,d,h1,h2,h3,h4,h5⟩
    ·exact .inl ⟨q,h1,h2,λw=>pX w (h3 w)⟩
    ·refine .inr ⟨q,d,h1,h2,pX w h3,h4,λu hu=>h5 u ?_⟩
     rw [sC]at hu
     ·exact hu
     ·intro e;exact(vB hlv h1 d e).2 h4
   have go:∀(v v':Value),mA A o.dst v (λA=>rest A S)=true->VR U v v'->Kn E.P ops (a.put o.dst v') w (i,v')->zV ro E.P ops Q (m+1) J L' a w:=by
    intro v v' hk hv hkn;obtain⟨U',A',S',g1,g2,g3⟩:=PX (k:=rest) hs ⟨U,v,S,hk,hv,hs.rel,.refl U w⟩;refine zV.take rY hQp ho (QC IV) m J L' a w (λj oj hj Sl hun IF=>Region.free_spec ho ES j oj hj Sl ?_ IF) (λp hp q hq t ht=>?_) aLH (v:=v') ?_
    ·have h1:=Kh.1 hun
     exact Kh.2 ⟨by rw [h.szL,<-h.sz];exact h1.1,λhh=>h1.2 ((h.on _).2 (.inl hh))⟩
    ·exact(vB (dJ.1 pZ p.1 (h.jf p hp).1) hq t ht).1
    ·refine ih g1 (X:=X) ⟨g2,h.stp.trans g3,Array.size_setIfInBounds.trans h.szL,Array.size_setIfInBounds.trans h.sz,λj=>?_,h.down.set aLH,λq hq=>((h.xf q hq).put rY (h.apart ho TE hq) (h.aB2 ho TE hq)).stp g3,λq hq=>?_,h.xd,h.xb,h.xs,λj hj=>?_,λp hp=>?_,Tk aDK TE h.fuel,?_,λp hp q hq=>?_⟩
     ·rw [On.set aDK,On.set Kj,h.on]
      constructor
      ·rintro((h1 | h1) | h1)
       ·exact .inl (.inl h1)
       ·exact .inr h1
       ·exact .inl (.inr h1)
      ·rintro((h1 | h1) | h1)
       ·exact .inl (.inl h1)
       ·exact .inr h1
       ·exact .inl (.inr h1)
     ·obtain⟨x1,x2,x3⟩:=h.xl q hq
      refine⟨x1,x2,λhh=>?_⟩;rcases(On.set Kj).1 hh with hh | hh
      ·exact x3 hh
      ·exact TE (hh▸(h.on _).2 (.inr ⟨q,hq,rfl⟩))
     ·rcases(On.set Kj).1 hj with hj | hj
      ·exact h.lg j hj
      ·rw [hj];exact(YH ho VQ).1
     ·rcases dA.1 hp with rfl | hp
      ·exact⟨.head _,hkn⟩
      ·exact⟨.tail _ (h.jf p hp).1,hold v' p hp (h.jf p hp).2⟩
     ·have:=h.xr.filter (t2:=L.setIfInBounds i true) (pre2:=[]) (q:=λ_=>true) (λe he=>(On.set Kj).2 (.inl he)) (λe he=>by cases he) (λe _ he=>by cases he)
      rwa [Rq.2 (λ_ _=>rfl)]at this
     ·rcases dA.1 hp with rfl | hp
      ·cases hdq:dep ops q.1 i with
       | false=>rfl
       | true=>exact absurd (h.down q.1 ((h.on _).2 (.inr ⟨q,hq,rfl⟩)) i (aDJ.1 hdq)) TE
      ·exact h.jx p hp q hq
   have kn:∀(v':Value),(pY E.P o=true->∀w,Yl E.P ops i v' a w)->Yl E.P ops i v' a w->Kn E.P ops (a.put o.dst v') w (i,v'):=by
    intro v' h1 h2;cases hpu:pY E.P o with
    | true=>exact .inl ⟨o,ho,hpu,λw=>aGU v' w (h1 hpu w)⟩
    | false=>
     have hl:jD ops i=true:=by rw [hpu]at pQ;simpa using pQ
     unfold jD at hl;rw [ho]at hl;simp only [bW]at hl;obtain⟨d,hd⟩:=Ax.1 hl.2;refine .inr ⟨o,d,ho,hl.1,aGU v' w h2,hd,?_⟩;rw [hd];exact CO
   cases hw:Region.wanted o (yielded ops a.tmps)with
   | true=>
    rw [hw]at hk;have hk:wW E o A S (λv S=>mA A o.dst v λA=>rest A S)=true:=hk;cases hpu:pY E.P o with
    | true=>
     obtain⟨v,v',hk,hv,dF⟩:=MU hs.rel hs.act hpu hk;exact go v v' hk hv (kn v' (λ_ w=>⟨o,ho,.inl ⟨hw,dF w⟩⟩) ⟨o,ho,.inl ⟨hw,dF w⟩⟩)
    | false=>
     have hl:zW o=true:=by
      unfold neutral at VQ;rw [hpu]at VQ;simpa using VQ
     obtain⟨v,v',hk,hv,dF⟩:=XZ hs.rel hs.act hl hk;exact go v v' hk hv (kn v' (λh=>by rw [hpu]at h;cases h) ⟨o,ho,.inl ⟨hw,dF⟩⟩)
   | false=>
    rw [hw]at hk;have hk:mA A o.dst undef (λA=>rest A S)=true:=hk;exact go undef undef hk .undef (kn undef (λ_ w=>⟨o,ho,.inr ⟨hw,rfl⟩⟩) ⟨o,ho,.inr ⟨hw,rfl⟩⟩)
end
section
variable{E:Env}{w0:World}{ops:Array Oper}
theorem DB{P:Program}{l:List Nat}{d i:Nat}:i∈sM P ops l d↔(i∈l/\UB ops ops.size d i=true)/\EB P ops i=false:=by
 unfold sM;rw [gE,gE];simp
structure Ask(E:Env)(ops:Array Oper)(L:Array Bool)(taken:List Nat)(A:aO)(S:St)(c:Array Bool×List Nat):Prop where
 close:GY E.P ops ops.size L []=c
 ok:∀d∈c.2,zY ops d=true/\∃o,ops[d]? =some o/\BV ops o=true/\∀p∈taken,dep ops d p=false->leaves ops o p=true
 yC:∃(yC:List Nat) (k:Bool),wL E ops A S yC k=true/\(∀i∈yC,jD ops i=true)/\(c.2≠[]->∀i∈taken,jD ops i=true->i∈yC)
 pre:∀d∈c.2,∃o e,ops[d]? =some o/\o.dst=some e/\A.tmps.t.get e=none/\nI E ops (sM E.P ops c.2 d) A S (λA S=>EC E ops d o A S λ_ _=>true)=true
theorem Inv.pick{ro:Option Nat}{Q:Exit->Act->World->Prop}{U0:Rn}{wa:World}{L:Array Bool}{taken:List Nat}{m:Nat}{L':Array Bool}{X:List (Nat×Option Nat)}{J:List (Nat×Value)}{U:Rn}{A:aO}{a:Act}{S:St}{w:World}{c:Array Bool×List Nat}
 (rY:Plain ops) (XD:w0.heap.size<=wa.heap.size) (LH:Ask E ops L taken A S c) (h:Inv E w0 ops U0 wa L taken (m+1) L' X J U A a S w) {d:Nat} (hd:d∈c.2) (rJ:d∈Region.ready .any ops L')
 {K:Act->World->Prop} (hK:∀a' w' X',Inv E w0 ops U0 wa L taken m (L'.setIfInBounds d true) X' (J.filter λp=> !dep ops d p.1) U A a' S w'->K a' w'):wpOpIn (NZ ro) 0 E.P ops Q d K a w:=by
 obtain⟨mm,h1,_,_,h4,h5,_⟩:=yO _ _ _ LH.close;have e2:c.2=mm:=by rw [h1];rfl
 rw [<-e2]at h4 h5;obtain⟨ES,o,ho,IV,pZ⟩:=LH.ok d hd;obtain⟨yC,k,Tn,Yt,zA⟩:=LH.yC;obtain⟨o',e,TD,hde,aMo,Gr⟩:=LH.pre d hd;rw [ho]at TD;injection TD with TD;subst TD;have zZ:lF E.P ops d=true:=(h4 d hd).1;refine Inv.early rY XD h ho rJ zZ ES IV pZ Tn Yt (zA (λe=>by rw [e]at hd;cases hd)) hde aMo Gr (λi hi=>?_) (λi hi=>(DB.1 hi).2) ((h5.filter _).filter _) hK;obtain⟨⟨hi1,hi2⟩,_⟩:=DB.1 hi;have TE:On L' i:=h.down.UB _ _ _ (kE.1 rJ).2.2 hi2;rcases(h.on i).1 TE with h6 | h6
 ·exact absurd h6 (h4 i hi1).2.2
 ·exact h6
end
section
variable{E:Env}{w0:World}{ops:Array Oper}
theorem Zg{P:Program}{L:Array Bool}{c:Array Bool×List Nat}(hsz:L.size=ops.size)(hc:GY P ops ops.size L []=c)(IF:∀i∈Region.ready .any ops c.1,lF P ops i=false):
 ∀(l pre:List Nat),yN ops L pre l->(∀e∈pre,On c.1 e)->(∀i∈l,lF P ops i=true/\i<ops.size)->∀i∈l,On c.1 i:=by
 obtain⟨mm,h1,h2,h3,_⟩:=yO _ _ _ hc;intro l;induction l with
 | nil=>intro _ _ _ _ i hi;cases hi
 | cons d l ih=>
  intro pre h Gr hl
  have hd:On c.1 d:=by
   by_cases TE:On c.1 d
   ·exact TE
   ·obtain⟨hl1,Hi⟩:=hl d (.head _)
    have hr:d∈Region.ready .any ops c.1:=kE.2 ⟨⟨by rw [h2,hsz];exact Hi,TE⟩,Hi,λe he=>(h.1 e he).elim (λh=>(h3 e).2 (.inl h)) (Gr e)⟩;rw [IF d hr]at hl1;cases hl1
  intro i hi;rcases dA.1 hi with rfl | hi
  ·exact hd
  ·exact ih (d::pre) h.2 (λe he=>by
    rcases dA.1 he with rfl | he
    ·exact hd
    ·exact Gr e he) (λi hi=>hl i (.tail _ hi)) i hi
theorem YI{P:Program}{i:Nat}(h:lF P ops i=true):i<ops.size:=by
 unfold lF at h;split at h
 ·rename_i o ho;exact(nN.1 ho).1
 ·cases h
section
variable{U0:Rn}{wa:World}{L:Array Bool}{taken:List Nat}{m:Nat}{L':Array Bool}{X:List (Nat×Option Nat)}{J:List (Nat×Value)}{U:Rn}{A:aO}{a:Act}{S:St}{w:World}{c:Array Bool×List Nat}
theorem Inv.aDL(h:Inv E w0 ops U0 wa L taken m L' X J U A a S w)(hc:GY E.P ops ops.size L []=c)(IF:∀i∈Region.ready .any ops c.1,lF E.P ops i=false){j:Nat}(hj:j∈Region.ready .any ops L'):j∈c.2\/j∈Region.ready .any ops c.1:=by
 obtain⟨mm,h1,h2,h3,h4,h5,h6⟩:=yO _ _ _ hc;have e2:c.2=mm:=by rw [h1];rfl
 obtain⟨⟨hj1,Hn⟩,hj3,hj4⟩:=kE.1 hj
 have hX:∀p∈X,On c.1 p.1:=λp hp=>Zg h.szL hc IF _ [] h.xr (by simp) (λi hi=>by
  rw [UT,mF]at hi;obtain⟨p,hp,rfl⟩:=hi;exact⟨(h.xl p hp).2.1,YI (h.xl p hp).2.1⟩) p.1 (by rw [UT,mF];exact⟨p,hp,rfl⟩)
 have aMm:∀e,On L' e->On c.1 e:=λe he=>by
  rcases(h.on e).1 he with h' | ⟨p,hp,rfl⟩
  ·exact(h3 e).2 (.inl h')
  ·exact hX p hp
 by_cases TE:On c.1 j
 ·rcases(h3 j).1 TE with h' | h'
  ·exact absurd ((h.on j).2 (.inl h')) Hn
  ·exact .inl (by rw [e2];exact h')
 ·exact .inr (kE.2 ⟨⟨by rw [h2,h.szL];exact hj3,TE⟩,hj3,λe he=>aMm e (hj4 e he)⟩)
theorem Inv.yl(h:Inv E w0 ops U0 wa L taken m L' X J U A a S w):∀p∈J,Yl E.P ops p.1 p.2 a w:=λp hp=>(h.jf p hp).2.yl
theorem Inv.aDM{ro:Option Nat}{Q:Exit->Act->World->Prop}(hc:iU E.P w0 E.call)(hr:nH E.P w0 E.round)(rY:Plain ops)(XD:w0.heap.size<=wa.heap.size)(LH:Ask E ops L taken A S c){r:Nat}{o:Oper}(ho:ops[r]? =some o)
 (rJ:Region.ready .any ops c.1=[r]) (MB:lF E.P ops r=false) {D qA:List Nat} (hD:D=sM E.P ops c.2 r) (ht':qA=taken.filter λp=> !dep ops r p&&D.all λd=> !dep ops d p) (pZ:qA.all (leaves ops o)=true)
 {rest:aO->St->Bool} (hk:nI E ops D A S (λA S=>VD E ops o A S λA S=>wL E ops A S (qA.filter (jD ops)) (rest A S))=true)
 (ih:∀{m:Nat} {L':Array Bool} {X:List (Nat×Option Nat)} {J:List (Nat×Value)} {U:Rn} {A:aO} {a:Act} {S:St} {w:World},rest A S=true->Inv E w0 ops U0 wa ((D.foldl (λt i=>t.setIfInBounds i true) L).setIfInBounds r true) qA m L' X J U A a S w->zV ro E.P ops Q m J L' a w):
 ∀(m:Nat) {L':Array Bool} {X:List (Nat×Option Nat)} {J:List (Nat×Value)} {a:Act} {w:World},Inv E w0 ops U0 wa L taken m L' X J U A a S w->zV ro E.P ops Q m J L' a w:=by
 obtain⟨mm,h1,h2,h3,h4,h5,h6⟩:=yO _ _ _ LH.close;have e2:c.2=mm:=by rw [h1];rfl
 rw [<-e2]at h3 h4 h5 h6;have hrc:r∈Region.ready .any ops c.1:=by rw [rJ];exact .head _
 obtain⟨⟨Xd,hr2⟩,hr3,hr4⟩:=kE.1 hrc
 have IF:∀i∈Region.ready .any ops c.1,lF E.P ops i=false:=λi hi=>by
  rw [rJ]at hi;rw [Ay.1 hi];exact MB
 have hrL:¬On L r:=λh=>hr2 ((h3 r).2 (.inl h));have aBP:yN ops L [] (c.2++[r]):=h6.snoc λe he=>((h3 e).1 (hr4 e he)).imp id λh=> .inr h
 have hrn:∀{m:Nat} {L':Array Bool} {X:List (Nat×Option Nat)} {J:List (Nat×Value)} {a:Act} {w:World},Inv E w0 ops U0 wa L taken m L' X J U A a S w->¬On L' r:=λh TE=>by
  rcases(h.on r).1 TE with h' | ⟨p,hp,e⟩
  ·exact hrL h'
  ·have:=(h.xl p hp).2.1
   rw [e,MB]at this;cases this
 intro m;induction m with
 | zero=>
  intro L' X J a w h;exact absurd (Ki h.fuel (by rw [h.sz];exact hr3)) (hrn h)
 | succ m ihm=>
  intro L' X J a w h;have hrn:=hrn h;refine⟨h.yl,λVM=>?_,λj hj=>?_⟩
  ·obtain⟨i,_,hi⟩:=aBP.ready h.sz (λj hj=>(h.on j).2 (.inl hj)) (by simp) (λi hi=>by
    rcases uP.1 hi with hi | hi
    ·exact YI (h4 i hi).1
    ·rw [Ay.1 hi];exact hr3) ⟨r,by simp,hrn⟩
   rw [VM]at hi;cases hi
  ·rcases h.aDL LH.close IF hj with Hn | Hn
   ·exact Inv.pick rY XD LH h Hn hj λa' w' X' h'=>ihm h'
   ·rw [rJ]at Hn
    have e:=Ay.1 Hn;subst e;obtain⟨⟨aOv,_⟩,_,hjw⟩:=kE.1 hj
    have hDX:∀i∈D,∃p∈X,p.1=i:=λi hi=>by
     rw [hD]at hi;obtain⟨⟨hi1,hi2⟩,_⟩:=DB.1 hi;have TE:On L' i:=h.down.UB _ _ _ hjw hi2;rcases(h.on i).1 TE with h7 | h7
     ·exact absurd h7 (h4 i hi1).2.2
     ·exact h7
    have hDn:D.Nodup:=by rw [hD];exact(h5.filter _).filter _
    have hDg:∀i∈D,EB E.P ops i=false:=λi hi=>by rw [hD]at hi;exact(DB.1 hi).2
    obtain⟨U1,A1,S1,k1,k2,k3,k4,k5⟩:=MW XD D hk h.hs h.stp hDX hDg h.xf h.xb hDn;have hX:∀q,q∈X.filter (λq=> !D.contains q.1)↔q∈X/\q.1∉D:=λq=>by rw [gE];simp
    have aOw:∀(D:List Nat) (t:Array Bool),t.size=ops.size->(∀i∈D,i<ops.size)->(D.foldl (λt i=>t.setIfInBounds i true) t).size=ops.size/\∀j,On (D.foldl (λt i=>t.setIfInBounds i true) t) j↔On t j\/j∈D:=by
     intro D;induction D with
     | nil=>intro t ht _;exact⟨ht,λj=>by simp⟩
     | cons d D ihD=>
      intro t ht hl;have Kk:d<t.size:=by rw [ht];exact hl d (.head _)
      obtain⟨g1,g2⟩:=ihD (t.setIfInBounds d true) (Array.size_setIfInBounds.trans ht) λi hi=>hl i (.tail _ hi);refine⟨g1,λj=>(g2 j).trans ?_⟩;rw [On.set Kk,dA];constructor
      ·rintro((h | h) | h)
       ·exact .inl h
       ·exact .inr (.inl h)
       ·exact .inr (.inr h)
      ·rintro(h | h | h)
       ·exact .inl (.inl h)
       ·exact .inl (.inr h)
       ·exact .inr h
    obtain⟨f1,f2⟩:=aOw D L h.szL λi hi=>by
     rw [hD]at hi;exact YI (h4 i (DB.1 hi).1.1).1
    have Zh:j<(D.foldl (λt i=>t.setIfInBounds i true) L).size:=by rw [f1];exact hr3
    have go:∀v' w',Next E.P w0 U1 w (λA S=>wL E ops A S (qA.filter (jD ops)) (rest A S)) (a.put o.dst v') w'->
     zV ro E.P ops Q m (J.filter λp=> !dep ops j p.1) (L'.setIfInBounds j true) (a.put o.dst v') w':=by
     rintro v' w' ⟨U',A',S',g1,g2,g3⟩
     obtain⟨z1,z2⟩:=VO g2 g1 (λi hi=>(gE.1 hi).2);have hap:∀p∈X,∀q,ops[p.1]? =some q->∀t,o.dst=some t->t∉q.looksAt ops/\q.dst≠some t:=λp hp=>h.apart ho hrn hp;have aP3:∀p∈X,∀i q,eZ E.P ops p.1=some i->ops[i]? =some q->∀t,o.dst=some t->t∉q.looksAt ops/\q.dst≠some t:=λp hp=>h.aB2 ho hrn hp;refine ih z1 (X:=X.filter λq=> !D.contains q.1) ⟨g2,k3.trans g3,Array.size_setIfInBounds.trans f1,Array.size_setIfInBounds.trans h.sz,λi=>?_,h.down.set hj,λq hq=>?_,λq hq=>?_,λq hq r hr=>h.xd q ((hX q).1 hq).1 r ((hX r).1 hr).1,λq hq r hr=>h.xb q ((hX q).1 hq).1 r ((hX r).1 hr).1,λq hq i hi=>?_,λi hi=>?_,λp hp=>?_,Tk aOv hrn h.fuel,?_,λq hq r hr=>h.jx q (gE.1 hq).1 r ((hX r).1 hr).1⟩
     ·rw [On.set aOv,On.set Zh,h.on,f2]
      constructor
      ·rintro((h' | ⟨p,hp,h'⟩) | h')
       ·exact .inl (.inl (.inl h'))
       ·by_cases e:i∈D
        ·exact .inl (.inl (.inr e))
        ·exact .inr ⟨p,(hX p).2 ⟨hp,by rw [h'];exact e⟩,h'⟩
       ·exact .inl (.inr h')
      ·rintro(((h' | h') | h') | ⟨p,hp,h'⟩)
       ·exact .inl (.inl h')
       ·exact .inl (.inr (hDX i h'))
       ·exact .inr h'
       ·exact .inl (.inr ⟨p,((hX p).1 hp).1,h'⟩)
     ·obtain⟨q1,q2⟩:=(hX q).1 hq
      exact((k4 q q1 q2).put rY (hap q q1) (aP3 q q1)).stp g3
     ·obtain⟨q1,q2⟩:=(hX q).1 hq
      obtain⟨x1,x2,x3⟩:=h.xl q q1;refine⟨x1,x2,λhh=>?_⟩;rcases(On.set Zh).1 hh with hh | hh
      ·rcases(f2 _).1 hh with hh | hh
       ·exact x3 hh
       ·exact q2 hh
      ·exact hrn (hh▸(h.on _).2 (.inr ⟨q,q1,rfl⟩))
     ·obtain⟨r,hr,hri⟩:=h.xs q ((hX q).1 hq).1 i hi
      refine⟨r,(hX r).2 ⟨hr,λe=>?_⟩,hri⟩;have:=Hm hi;rw [<-hri,hDg _ e]at this;cases this
     ·rcases(On.set Zh).1 hi with hi | hi
      ·rcases(f2 i).1 hi with hi | hi
       ·exact h.lg i hi
       ·exact hDg i hi
      ·rw [hi]
       cases hgj:EB E.P ops j with
       | false=>rfl
       | true=>rw [aE7 hgj]at MB;cases MB
     ·obtain⟨hp,hdp⟩:=gE.1 hp
      obtain⟨hpt,hkn⟩:=h.jf p hp
      have aMp:p.1∈qA:=by
       rw [ht',gE];refine⟨hpt,?_⟩;simp only [hdp,Jb,dJ];intro d hd;obtain⟨q,hq,rfl⟩:=hDX d hd;rw [h.jx p hp q hq];rfl
      refine⟨aMp,?_⟩;have hlv:=dJ.1 pZ p.1 aMp;rcases hkn with ⟨q,k1,k2,k3⟩ | ⟨q,d,k1,k2,k3,k4,k5⟩
      ·exact .inl ⟨q,k1,k2,λw=>(Yl.put rY (λq hq t ht=>(vB hlv hq t ht).1)).2 (k3 w)⟩
      ·obtain⟨o2,d2,u',y1,y2,y3,y4⟩:=z2 p.1 (by
        rw [gE];refine⟨aMp,?_⟩;unfold jD;rw [k1];simp [k2,k4])
       rw [k1]at y1;injection y1 with y1;subst y1;rw [k4]at y2;injection y2 with y2;subst y2;have wC:o.dst≠some d:=λe=>(vB hlv k1 d e).2 k4;have hu:u'=p.2:=k5 u' (by rw [<-y3,sC wC]);subst hu;refine .inr ⟨q,d,k1,k2,y4,k4,λu hu=>?_⟩;rw [y3]at hu;injection hu with hu;exact hu.symm
     ·have e1:((X.filter λq=> !D.contains q.1).map Prod.fst).reverse=(X.map Prod.fst).reverse.filter λi=> !D.contains i:=by
       rw [List.filter_reverse,List.filter_map];rfl
      rw [e1];refine h.xr.filter (λe he=>(On.set Zh).2 (.inl ((f2 e).2 (.inl he)))) (λe he=>by cases he) λe _ he=>(On.set Zh).2 (.inl ((f2 e).2 (.inr (by simpa using he))))
    unfold VD at k1;have k1:=MS k2.act k1;unfold wpOpIn;simp only [ho];cases hw:Region.wanted o (yielded ops a.tmps)with
    | true=>
     rw [hw]at k1;have k1:wW E o A1 S1 (λv S=>mA A1 o.dst v λA=>wL E ops A S (qA.filter (jD ops)) (rest A S))=true:=k1;simp only [if_true];exact aGF hc hr k2.rel k2.act k1 λv' w' hg=>go v' w' (PX (k:=λA S=>wL E ops A S (qA.filter (jD ops)) (rest A S)) k2 hg)
    | false=>
     rw [hw]at k1;have k1:mA A1 o.dst undef (λA=>wL E ops A S1 (qA.filter (jD ops)) (rest A S1))=true:=k1;simp only [bQ,if_false];exact⟨λ_ _=>trivial,go undef w (PX (k:=λA S=>wL E ops A S (qA.filter (jD ops)) (rest A S)) k2 ⟨U1,undef,S1,k1,.undef,k2.rel,.refl U1 w⟩)⟩
theorem Inv.aDN{ro:Option Nat}{Q:Exit->Act->World->Prop}(rY:Plain ops)(XD:w0.heap.size<=wa.heap.size)(LH:Ask E ops L taken A S c)(rJ:Region.ready .any ops c.1=[]){k:aO->St->Bool}(hk:nI E ops (c.2.filter λi=> !EB E.P ops i) A S k=true)
 (hQ:∀a' w',Next E.P w0 U0 wa k a' w'->Q .normal a' w'):
 ∀(m:Nat) {L':Array Bool} {X:List (Nat×Option Nat)} {J:List (Nat×Value)} {a:Act} {w:World},Inv E w0 ops U0 wa L taken m L' X J U A a S w->zV ro E.P ops Q m J L' a w:=by
 obtain⟨mm,h1,h2,h3,h4,h5,h6⟩:=yO _ _ _ LH.close;have e2:c.2=mm:=by rw [h1];rfl
 rw [<-e2]at h3 h4 h5 h6;have IF:∀i∈Region.ready .any ops c.1,lF E.P ops i=false:=λi hi=>by rw [rJ]at hi;cases hi
 have end_:∀{m:Nat} {L':Array Bool} {X:List (Nat×Option Nat)} {J:List (Nat×Value)} {a:Act} {w:World},Inv E w0 ops U0 wa L taken m L' X J U A a S w->Region.ready .any ops L'=[]->Q .normal a w:=by
  intro m L' X J a w h VM
  have hX:∀i∈c.2,∃p∈X,p.1=i:=λi hi=>by
   have TE:On L' i:=by
    by_cases TE:On L' i
    ·exact TE
    ·obtain⟨j,_,hj⟩:=h6.ready h.sz (λj hj=>(h.on j).2 (.inl hj)) (by simp) (λi hi=>YI (h4 i hi).1) ⟨i,hi,TE⟩
     rw [VM]at hj;cases hj
   rcases(h.on i).1 TE with h7 | h7
   ·exact absurd h7 (h4 i hi).2.2
   ·exact h7
  obtain⟨U1,A1,S1,k1,k2,k3,_⟩:=MW XD _ hk h.hs h.stp (λi hi=>hX i (gE.1 hi).1) (λi hi=>by simpa using(gE.1 hi).2) h.xf h.xb (h5.filter _);exact hQ a w ⟨U1,A1,S1,k1,k2,k3⟩
 intro m;induction m with
 | zero=>
  intro L' X J a w h
  have VM:Region.ready .any ops L'=[]:=by
   cases hl:Region.ready .any ops L' with
   | nil=>rfl
   | cons j l=>
    have hj:j∈Region.ready .any ops L':=by rw [hl];exact .head _
    obtain⟨⟨hj1,Hn⟩,_⟩:=kE.1 hj;exact absurd (Ki h.fuel hj1) Hn
  exact⟨h.yl,VM,end_ h VM⟩
 | succ m ihm=>
  intro L' X J a w h;refine⟨h.yl,end_ h,λj hj=>?_⟩;rcases h.aDL LH.close IF hj with Hn | Hn
  ·exact Inv.pick rY XD LH h Hn hj λa' w' X' h'=>ihm h'
  ·rw [rJ]at Hn;cases Hn
end
end
section
variable{E:Env}{w0:World}{ops:Array Oper}
theorem To{U:Rn}{a:Act}{w:World}{L:Array Bool}{taken:List Nat}{A:aO}{S:St}{c:Array Bool×List Nat}(hs:SR E.P w0 U A a S w)(hc:GY E.P ops ops.size L []=c)
 (Cd:(c.2.all λd=>zY ops d&&(match ops[d]? with | some o=>BV ops o&&(taken.filter λp=> !dep ops d p).all (leaves ops o) | none=>false))=true) {K:Bool}
 (hk:wL E ops A S (match c.2 with | []=>[] | _=>taken.filter (jD ops)) (OR E ops A S (c.2.map λd=>(d,sM E.P ops c.2 d)) K)=true):Ask E ops L taken A S c/\K=true:=by
 have hl:∀i∈(match c.2 with | []=>[] | _=>taken.filter (jD ops)),jD ops i=true:=by
  intro i hi;cases h:c.2 with
  | nil=>rw [h]at hi;cases hi
  | cons d l=>rw [h]at hi;exact(gE.1 hi).2
 obtain⟨h1,_⟩:=VO hs hk hl;obtain⟨h2,h3⟩:=aE5 h1;refine⟨⟨hc,λd hd=>?_,⟨_,_,hk,hl,λwC i hi lN=>?_⟩,λd hd=>?_⟩,h2⟩
 ·have:=dJ.1 Cd d hd
  simp only [bW]at this;refine⟨this.1,?_⟩;have h4:=this.2;split at h4
  ·rename_i o ho
   simp only [bW]at h4;exact⟨o,ho,h4.1,λp hp hdp=>dJ.1 h4.2 p (gE.2 ⟨hp,by rw [hdp];rfl⟩)⟩
  ·cases h4
 ·cases h:c.2 with
  | nil=>exact absurd h wC
  | cons d l=>exact gE.2 ⟨hi,lN⟩
 ·obtain⟨o,e,q1,q2,q3,q4⟩:=h3 (d,sM E.P ops c.2 d) (mF.2 ⟨d,hd,rfl⟩)
  exact⟨o,e,q1,q2,q3,q4⟩
theorem Kl{U:Rn}{a:Act}:∀{l:List Nat} {A:aO} {k:aO->Bool},xX E.P U A a->QF ops l A k=true->∃A',k A'=true/\xX E.P U A' a/\A'.marks=A.marks:=by
 intro l;induction l with
 | nil=>intro A k hA hk;exact⟨A,hk,hA,rfl⟩
 | cons i l ih=>
  intro A k hA hk;unfold QF at hk;rw [aS]at hk;split at hk
  ·split at hk
   ·rename_i o ho d hd
    rw [aDH]at hk
    obtain⟨A',h1,h2,h3⟩:=ih (A:={A with tmps:=⟨A.tmps.t.del d,A.tmps.n⟩}) ⟨⟨hA.tmps.1,λj v hj=>hA.tmps.2 j v (by
     have hj:(A.tmps.t.del d).get j=some v:=hj;rw [YC]at hj;split at hj
     ·cases hj
     ·exact hj)⟩,hA.g⟩ hk
    exact⟨A',h1,h2,h3⟩
   ·cases hk
  ·cases hk
end
section
variable{β:Type}
def Hs(l:List Bool)(k:List Bool->β):β:=
 fS (β:=(List Bool->β)->β) (λk=>k []) (λb _ ih k=>dL b (ih λt=>k (true::t)) (ih λt=>k (false::t))) l k
theorem aB9:∀(l:List Bool) (k:List Bool->β),Hs l k=k l:=by
 intro l;induction l with
 | nil=>intro k;rfl
 | cons b l ih=>
  intro k;show dL b (Hs l λt=>k (true::t)) (Hs l λt=>k (false::t))=_;rw [ih,ih];cases b<;>rfl
def Cf(t:Array Bool)(k:Array Bool->β):β:=Hs t.toList λl=>k ⟨l⟩
theorem LI(t:Array Bool)(k:Array Bool->β):Cf t k=k t:=aB9 _ _
def Cg(P:Program)(ops:Array Oper):List Nat->Array Bool->List Nat->(Array Bool->List Nat->β)->β
 | [],t,l,k=>k t l
 | i::is,t,l,k=>match lF P ops i&&IX ops t i with
  | true=>Cf (t.setIfInBounds i true) λt=>Cg P ops is t (l++[i]) k
  | false=>Cg P ops is t l k
theorem Pv(P:Program)(ops:Array Oper):∀(is:List Nat) (t:Array Bool) (l:List Nat) (k:Array Bool->List Nat->β),Cg P ops is t l k=k (GX P ops is t l).1 (GX P ops is t l).2:=by
 intro is;induction is with
 | nil=>intro t l k;rfl
 | cons i is ih=>
  intro t l k;unfold Cg GX;cases lF P ops i&&IX ops t i with
  | true=>simp only [LI,ih]
  | false=>simp only [ih]
end
def aGZ(l:List Nat):Nat:=l.foldl (λm t=>Nat.lor m (Nat.shiftLeft 1 t)) 0
theorem Pw{l:List Nat}{t:Nat}(h:t∈l):Nat.testBit (aGZ l) t=true:=by
 unfold aGZ
 have key:∀(l:List Nat) (m:Nat),(t∈l\/Nat.testBit m t=true)->Nat.testBit (l.foldl (λm t=>Nat.lor m (Nat.shiftLeft 1 t)) m) t=true:=by
  intro l;induction l with
  | nil=>intro m h;rcases h with h | h
         ·cases h
         ·exact h
  | cons u l ih=>
   intro m h;refine ih _ ?_;show t∈l\/Nat.testBit (m ||| 1 <<< u) t=true;rw [Nat.testBit_or,OZ,Nat.one_shiftLeft,Nat.testBit_two_pow];rcases h with h | h
   ·rcases dA.1 h with rfl | h
    ·exact .inr (.inr (by simp))
    ·exact .inl h
   ·exact .inr (.inl h)
 exact key l 0 (.inl h)
def aG0(ops:Array Oper):List (Nat×Option Nat):=ops.toList.map λo=>(aGZ (o.looksAt ops),o.dst)
def Zq(ops:Array Oper)(listed:Array Bool)(i:Nat):Bool:=match(aG0 ops)[i]? with
 | none=>false
 | some (a,d)=>(List.range ops.size).all λj=>(match(aG0 ops)[j]? with
  | none=>true
  | some (lk,e)=>(match d with | some d=> !Nat.testBit lk d&&(match e with | some e=> !Nat.beq e d | none=>true) | none=>true)&&(match e with | some e=> !Nat.testBit a e | none=>true)) || (j==i || listed.getD j true || dep ops j i)
theorem Kw{ops:Array Oper}{listed:Array Bool}{i:Nat}(h:Zq ops listed i=true):Region.free .any ops listed i=true:=by
 unfold Zq aG0 at h;unfold Region.free;rw [jA]at h;cases hi:ops[i]? with
 | none=>
  have:ops.toList[i]? =none:=by simpa using hi
  rw [this]at h;cases h
 | some oi=>
  have lN:ops.toList[i]? =some oi:=by simpa using hi
  rw [lN]at h;simp only [zH]at h;simp only [dJ,PC]at h ⊢;intro j hj;have h1:=h j hj;have MC:ops.toList[j]? =some ops[j]:=by simp [hj]
  rw [jA,MC]at h1;rw [Aw hj];simp only [zH,OZ]at h1 ⊢;rcases h1 with h1 | (h1 | h1) | h1
  ·refine .inr (.inr ?_)
   unfold Oper.apart;simp only [bW]at h1 ⊢;obtain⟨g1,g2⟩:=h1;constructor
   ·cases hd:oi.dst with
    | none=>rfl
    | some d=>
     rw [hd]at g1;simp only [bW,xR]at g1 ⊢;refine⟨?_,?_⟩
     ·cases hc:(ops[j].looksAt ops).contains d with
      | false=>rfl
      | true=>rw [Pw (Rl.1 hc)]at g1;cases g1.1
     ·cases he:ops[j].dst with
      | none=>rfl
      | some e=>
       rw [he]at g1;have g3:=g1.2;simp only [xR]at g3;have:e≠d:=OX g3;simpa using this
   ·cases he:ops[j].dst with
    | none=>rfl
    | some e=>
     rw [he]at g2;simp only [xR]at g2 ⊢;cases hc:(oi.looksAt ops).contains e with
     | false=>rfl
     | true=>rw [Pw (Rl.1 hc)]at g2;cases g2
  ·exact .inl (.inl h1)
  ·exact .inl (.inr h1)
  ·refine .inr (.inl ?_)
   unfold dep at h1;rw [Aw hj]at h1;exact h1
def LJ(P:Program)(ops:Array Oper):Nat->List Nat->Array Bool->List Nat->Option (List wD)
 | 0,_,_,_=>none
 | f+1,i::is,listed,taken=>match ops[i]? with
  | some o=>match neutral P o&&IX ops listed i with
   | true=>match Zq ops listed i&&BV ops o&&taken.all (leaves ops o)&&(pY P o || jD ops i)with
    | true=>(LJ P ops f is (listed.setIfInBounds i true) (i::taken)).map (.take i:: ·)
    | false=>LJ P ops f is listed taken
   | false=>LJ P ops f is listed taken
  | none=>none
 | f+1,[],listed,taken=>
  let c:=GY P ops ops.size listed []
  let mP:=c.2.map λd=>(d,sM P ops c.2 d)
  let yC:=match c.2 with | []=>[] | _=>taken.filter (jD ops)
  match c.2.all λd=>zY ops d&&(match ops[d]? with | some o=>BV ops o&&(taken.filter λp=> !dep ops d p).all (leaves ops o) | none=>false)with
  | true=>match Region.ready .any ops c.1 with
   | []=>some [.fin yC mP (c.2.filter λi=> !EB P ops i)]
   | [r]=>match ops[r]? with
    | some o=>
     let D:=sM P ops c.2 r
     let qA:=taken.filter λp=> !dep ops r p&&D.all λd=> !dep ops d p
     match qA.all (leaves ops o)&& !lF P ops r with
     | true=>(LJ P ops f (List.range ops.size) ((D.foldl (λt i=>t.setIfInBounds i true) listed).setIfInBounds r true) qA).map (.Ps yC mP D r (qA.filter (jD ops)):: ·)
     | false=>none
    | none=>none
   | _=>none
  | false=>none
def Fb(P:Program)(ops:Array Oper):Nat->List Nat->Array Bool->List Nat->Option (List wD)
 | 0,_,_,_=>none
 | f+1,i::is,listed,taken=>match ops[i]? with
  | some o=>match neutral P o&&IX ops listed i with
   | true=>match Zq ops listed i&&BV ops o&&taken.all (leaves ops o)&&(pY P o || jD ops i)with
    | true=>Cf (listed.setIfInBounds i true) λt=>(Fb P ops f is t (i::taken)).map (.take i:: ·)
    | false=>Fb P ops f is listed taken
   | false=>Fb P ops f is listed taken
  | none=>none
 | f+1,[],listed,taken=>
  Cg P ops (List.range ops.size) listed [] λc1 c2=>
  let mP:=c2.map λd=>(d,sM P ops c2 d)
  let yC:=match c2 with | []=>[] | _=>taken.filter (jD ops)
  match c2.all λd=>zY ops d&&(match ops[d]? with | some o=>BV ops o&&(taken.filter λp=> !dep ops d p).all (leaves ops o) | none=>false)with
  | true=>match Region.ready .any ops c1 with
   | []=>some [.fin yC mP (c2.filter λi=> !EB P ops i)]
   | [r]=>match ops[r]? with
    | some o=>
     let D:=sM P ops c2 r
     let qA:=taken.filter λp=> !dep ops r p&&D.all λd=> !dep ops d p
     match qA.all (leaves ops o)&& !lF P ops r with
     | true=>Cf ((D.foldl (λt i=>t.setIfInBounds i true) listed).setIfInBounds r true) λt=>(Fb P ops f (List.range ops.size) t qA).map (.Ps yC mP D r (qA.filter (jD ops)):: ·)
     | false=>none
    | none=>none
   | _=>none
  | false=>none
theorem aG1(P:Program)(ops:Array Oper):∀(f:Nat) (is:List Nat) (listed:Array Bool) (taken:List Nat),Fb P ops f is listed taken=LJ P ops f is listed taken:=by
 intro f;induction f with
 | zero=>intro _ _ _;rfl
 | succ f ih=>
  intro is listed taken;cases is with
  | nil=>unfold Fb LJ;simp only [LI,Pv,ih];rfl
  | cons i is=>unfold Fb LJ;simp only [LI,ih]
def YJ(P:Program)(ops:Array Oper):Option (List wD):=match GV ops with | true=>Fb P ops ((ops.size+1)*(ops.size+2)) (List.range ops.size) ⟨List.replicate ops.size false⟩ [] | false=>none
section
variable{E:Env}{w0:World}{ops:Array Oper}
theorem Zr(hc:iU E.P w0 E.call)(hr:nH E.P w0 E.round)(rY:Plain ops){ro:Option Nat}{Q:Exit->Act->World->Prop}(hQp:∀c a w,¬Q (.panic c) a w){k:aO->St->Bool}{U0:Rn}{wa:World}(XD:w0.heap.size<=wa.heap.size)
 (hQ:∀a' w',Next E.P w0 U0 wa k a' w'->Q .normal a' w'):∀(f:Nat) (is:List Nat) (L:Array Bool) (taken:List Nat) (steps:List wD),LJ E.P ops f is L taken=some steps->
 ∀{m:Nat} {L':Array Bool} {X:List (Nat×Option Nat)} {J:List (Nat×Value)} {U:Rn} {A:aO} {a:Act} {S:St} {w:World},lW E ops steps A S k=true->Inv E w0 ops U0 wa L taken m L' X J U A a S w->zV ro E.P ops Q m J L' a w:=by
 intro f;induction f with
 | zero=>intro is L taken steps hp;cases hp
 | succ f ih=>
  intro is L taken steps hp m L' X J U A a S w hk h;cases is with
  | cons i is=>
   unfold LJ at hp;split at hp
   ·rename_i o ho
    split at hp
    ·rename_i VQ
     rw [bW]at VQ;obtain⟨VQ,hrd⟩:=VQ;have aGT:=QG.1 hrd;split at hp
     ·rename_i Tn
      simp only [bW]at Tn;obtain⟨⟨⟨ES,IV⟩,pZ⟩,pQ⟩:=Tn;cases uX:LJ E.P ops f is (L.setIfInBounds i true) (i::taken)with
      | none=>rw [uX]at hp;cases hp
      | some rest=>
       rw [uX]at hp;injection hp with hp;subst hp;unfold lW at hk;rw [aS]at hk;simp only [ho]at hk;exact Inv.Zf hQp rY XD ho aGT VQ (Kw ES) IV pZ pQ (rest:=λA S=>lW E ops rest A S k) hk (λwU h'=>ih _ _ _ _ uX wU h') h
     ·exact ih _ _ _ _ hp hk h
    ·exact ih _ _ _ _ hp hk h
   ·cases hp
  | nil=>
   unfold LJ at hp;generalize Ed:GY E.P ops ops.size L []=c at hp;simp only at hp;split at hp
   ·rename_i Cd
    split at hp
    ·rename_i rJ
     injection hp with hp;subst hp;unfold lW at hk;rw [aS]at hk;simp only at hk;obtain⟨LH,hk⟩:=To h.hs Ed Cd hk;exact Inv.aDN rY XD LH rJ hk hQ m h
    ·rename_i r rJ
     split at hp
     ·rename_i o ho
      split at hp
      ·rename_i pZ
       simp only [bW,xR]at pZ;obtain⟨pZ,MB⟩:=pZ;generalize uX:LJ E.P ops f _ _ _=rest at hp;cases rest with
       | none=>cases hp
       | some rest=>
        injection hp with hp;subst hp;unfold lW at hk;rw [aS]at hk;simp only [ho]at hk;obtain⟨LH,hk⟩:=To h.hs Ed Cd hk;exact Inv.aDM hc hr rY XD LH ho rJ MB rfl rfl pZ (rest:=λA S=>lW E ops rest A S k) hk (λwU h'=>ih _ _ _ _ uX wU h') m h
      ·cases hp
     ·cases hp
    ·cases hp
   ·cases hp
def Ex(E:Env)(ops:Array Oper)(A:aO)(S:St)(k:aO->St->Bool):Bool:=
 match YJ E.P ops with
 | some l=>QF ops (LG l) A λA=>lW E ops l A S k
 | none=>false
theorem aGW(hc:iU E.P w0 E.call)(hr:nH E.P w0 E.round)(hm:E.P.follows .mixedOrders=true):aET E w0 (Ex E):=by
 intro ops A S k U a w ro id Q hk hs hQ;unfold Ex at hk;split at hk
 ·rename_i l hl
  unfold YJ at hl;split at hl
  ·rename_i aCa
   rw [aG1]at hl;have hl:LJ E.P ops ((ops.size+1)*(ops.size+2)) (List.range ops.size) (Array.replicate ops.size false) []=some l:=hl;have rY:=UA aCa;obtain⟨A',hk,hA',hmk⟩:=Kl hs.act hk
   let Q0:Exit->Act->World->Prop:=λe a' w'=>e= .normal/\Next E.P w0 U w k a' w'
   have IF:∀j,¬On (Array.replicate ops.size false) j:=λj h=>by
    unfold On at h;rcases zJ j ops.size with h' | h'
    ·simp [h']at h
    ·simp [h']at h
   have aMv:rem (Array.replicate ops.size false)<=ops.size:=by
    unfold rem;refine tP (List.countP_le_length) ?_;simp
   have h:=Zr hc hr rY (ro:=ro) (Q:=Q0) (λc a w h=>by cases h.1) (U0:=U) (wa:=w) hs.rel.base.size (λa' w' h=>⟨rfl,h⟩) _ _ _ _ l hl (m:=ops.size) (X:=[]) (J:=[]) hk
    ⟨⟨hA',hs.rel.drew,by rw [hmk];exact hs.marks⟩,uI.drew U w,Array.size_replicate,Array.size_replicate,λj=>by simp,λj h=>absurd h (IF j),by simp,by simp,by simp,by simp,by simp,λj h=>absurd h (IF j),by simp,aMv,trivial,by simp⟩
   exact wpIn_mono (wpIn_region_any hm h.any) λe a' w' hq=>by obtain⟨rfl,hn⟩:=hq;exact hQ a' w' hn
  ·cases hl
 ·cases hk
end
def aJW(P:Program)(ops:Array Oper)(i:Nat)(o:Oper):OpW:=match eZ P ops i with
 | none=>Xf P o
 | some j=>match ops[j]? with
  | some q=>⟨λE A S K=>(Xf P q).f E A S λs S'=>match s with
   | .slice (some ⟨b,0,none⟩) _ _=>match Nat.beq b S.n with
    | true=>mA A q.dst s λA'=>(Xf P o).f E A' S' λv _=>match v with
     | .string _=>K v S
     | _=>false
    | false=>false
   | _=>false⟩
  | none=>⟨λ_ _ _ _=>false⟩
theorem aDO(E:Env)(ops:Array Oper)(i:Nat)(o:Oper)(A:aO)(S:St)(K:VK):(aJW E.P ops i o).f E A S K=EC E ops i o A S K:=by
 unfold aJW EC;cases eZ E.P ops i with
 | none=>exact BW E o A S K
 | some j=>
  simp only;cases ops[j]? with
  | none=>rfl
  | some q=>simp only [BW]<;>rfl
def Zi(P:Program)(ops:Array Oper)(l:List Nat):Kd:=
 fS (β:=Kd) ⟨λ_ A S k=>k A S⟩ (λi _ ih=>match ops[i]? with
  | some o=>⟨λE A S k=>(aJW P ops i o).f E A S λv S=>aMk o.dst v A λA=>ih.f E A S k⟩
  | none=>⟨λ_ _ _ _=>false⟩) l
theorem aDP(d:Option Tmp)(v:Value)(A:aO)(k:aO->Bool):aMk d v A k=mA A d v k:=by cases d<;>rfl
theorem Km(E:Env)(ops:Array Oper):∀(l:List Nat) (A:aO) (S:St) (k:KS),(Zi E.P ops l).f E A S k=nI E ops l A S k:=by
 intro l;induction l with
 | nil=>intro A S k;rfl
 | cons i l ih=>
  intro A S k;unfold Zi nI at ih ⊢;rw [aS,aS];cases ops[i]? with
  | none=>rfl
  | some o=>
   simp only [aDO,aDP]
   congr 1
   funext v S
   congr 1
   funext A
   exact ih A S k
def aJX(P:Program)(ops:Array Oper)(l:List (Nat×List Nat)):ChW:=
 fS (β:=ChW) ⟨λ_ _ _ k=>k⟩ (λp _ ih=>match ops[p.1]? with
  | some o=>⟨λE A S k=>aB1 A o (dL ((Zi P ops p.2).f E A S λA S=>(aJW P ops p.1 o).f E A S λ_ _=>true) (ih.f E A S k) false)⟩
  | none=>⟨λ_ _ _ _=>false⟩) l
theorem aDQ(E:Env)(ops:Array Oper)(A:aO)(S:St)(k:Bool):∀(l:List (Nat×List Nat)),(aJX E.P ops l).f E A S k=OR E ops A S l k:=by
 intro l;induction l with
 | nil=>rfl
 | cons p l ih=>
  unfold aJX OR at ih ⊢;rw [aS,aS];cases ops[p.1]? with
  | none=>rfl
  | some o=>simp only [Km,aDO,ih]
def Ho(P:Program)(ops:Array Oper)(l:List wD):Kd:=
 fS (β:=Kd) ⟨λ_ _ _ _=>false⟩ (λs _ ih=>match s with
  | .take i=>match ops[i]? with
   | some o=>⟨λE A S k=>(doW P ops o).f E A S λA S=>ih.f E A S k⟩
   | none=>⟨λ_ _ _ _=>false⟩
  | .Ps yC mP D r BX=>match ops[r]? with
   | some o=>⟨λE A S k=>(aB0 P ops yC).f E A S ((aJX P ops mP).f E A S ((Zi P ops D).f E A S λA S=>(doW P ops o).f E A S λA S=>(aB0 P ops BX).f E A S (ih.f E A S k)))⟩
   | none=>⟨λ_ _ _ _=>false⟩
  | .fin yC mP D=>⟨λE A S k=>(aB0 P ops yC).f E A S ((aJX P ops mP).f E A S ((Zi P ops D).f E A S k))⟩) l
theorem Ko(E:Env)(ops:Array Oper):∀(l:List wD) (A:aO) (S:St) (k:KS),(Ho E.P ops l).f E A S k=lW E ops l A S k:=by
 intro l;induction l with
 | nil=>intro A S k;rfl
 | cons s l ih=>
  intro A S k;unfold Ho lW at ih ⊢;rw [aS,aS];cases s with
  | take i=>
   simp only;cases ops[i]? with
   | none=>rfl
   | some o=>simp only [aBZ,ih]
  | Ps yC mP D r BX=>
   simp only;cases ops[r]? with
   | none=>rfl
   | some o=>simp only [aBZ,aDG,aDQ,Km,ih]
  | fin yC mP D=>simp only [aDG,aDQ,Km]
def aJY(P:Program)(ops:Array Oper)(draw:Bool):Kd:=
 match draw with
 | true=>match YJ P ops with
  | some l=>match LG l with
   | []=>Ho P ops l
   | ls=>⟨λE A S k=>QF ops ls A λA=>(Ho P ops l).f E A S k⟩
  | none=>⟨λ_ _ _ _=>false⟩
 | false=>aMl P ops ops.toList
theorem aJZ(E:Env)(ops:Array Oper)(draw:Bool)(A:aO)(S:St)(k:KS):(aJY E.P ops draw).f E A S k=dL draw (Ex E ops A S k) (TA E ops ops.toList A S k):=by
 cases draw with
 | true=>
  unfold aJY Ex dL;simp only;cases YJ E.P ops with
  | none=>rfl
  | some l=>
   simp only;cases h:LG l with
   | nil=>exact Ko E ops l A S k
   | cons d ls=>simp only [Ko]
 | false=>exact aJT E ops _ A S k
def QH(P:Program)(c:Code):CdW:=
 aN8 (β:=CdW)
  ⟨λ_ _ A S K=>K .normal A S⟩
  (λops draw=>⟨λE _ A S K=>(aJY P ops draw).f E A S λA S=>K .normal A S⟩)
  (λha hb=>⟨λE r A S K=>ha.f E r A S λe A S=>match e with | .normal=>hb.f E r A S K | e=>K e A S⟩)
  (λc ha hb=>⟨λE r A S K=>(xI c).f A λv=>match v with | .bool b=>dL b (ha.f E r A S K) (hb.f E r A S K) | _=>false⟩)
  (λid h=>⟨λE r A S K=>h.f E r A S λe A S=>match e with
   | .exit i=>match Nat.beq i id with | true=>K .normal A S | false=>K (.exit i) A S
   | e=>K e A S⟩)
  (λh=>⟨λE r A S K=>aDy (h.f E r) E.most A S K⟩)
  (λh=>h)
  (λf params assign body=>⟨λE r A S K=>VG E r f params assign body A S K⟩)
  (λid=>⟨λ_ _ A S K=>K (.exit id) A S⟩)
  ⟨λ_ _ A S K=>K .normal A S⟩
  ⟨λ_ _ A S K=>K .ret A S⟩
  ⟨λ_ _ _ _ _=>false⟩ c
theorem Zj(E:Env)(r:Option Nat):∀(c:Code) (A:aO) (S:St) (K:VF),(QH E.P c).f E r A S K=uU E (Ex E) r c A S K:=by
 intro c;induction c with
 | skip=>intro A S K;rfl
 | region id ops draw=>
  intro A S K;show(aJY E.P ops draw).f E A S (λA S=>K .normal A S)=dL draw (Ex E ops A S λA S=>K .normal A S) (TA E ops ops.toList A S λA S=>K .normal A S);exact aJZ E ops draw A S _
 | seq a b iha ihb=>
  intro A S K;show(QH E.P a).f E r A S (λe A S=>match e with | .normal=>(QH E.P b).f E r A S K | e=>K e A S)=uU E (Ex E) r a A S λe A S=>match e with | .normal=>uU E (Ex E) r b A S K | e=>K e A S
  rw [iha]
  congr 1
  funext e A S
  cases e with
  | normal=>exact ihb A S K
  | _=>rfl
 | cond c a b iha ihb=>
  intro A S K;show(xI c).f A (λv=>match v with | .bool b'=>dL b' ((QH E.P a).f E r A S K) ((QH E.P b).f E r A S K) | _=>false)=tC A c λv=>match v with | .bool b'=>dL b' (uU E (Ex E) r a A S K) (uU E (Ex E) r b A S K) | _=>false
  rw [kT,iha,ihb]
 | block id a ih=>
  intro A S K
  show(QH E.P a).f E r A S (λe A S=>match e with
   | .exit i=>match Nat.beq i id with | true=>K .normal A S | false=>K (.exit i) A S
   | e=>K e A S)=_
  rw [ih];rfl
 | loop a ih=>
  intro A S K;show aDy ((QH E.P a).f E r) E.most A S K=aDy (uU E (Ex E) r a) E.most A S K;have:(QH E.P a).f E r=uU E (Ex E) r a:=by funext A S K;exact ih A S K
  rw [this]
 | scope a ih=>intro A S K;exact ih A S K
 | _=>intros;rfl
def fnL(P:Program)(f:FuncId):FnW:=
 match P.funcs[f]? with
 | some fn=>match fn.body with
  | some c=>⟨λE args S K=>cG fn.ntmps λn=>aDv n args λts=>(QH P c).f E none ⟨ts,[],P.globals.size⟩ S λe A S=>
   match e with
   | .exit _=>false
   | _=>KE A.marks S λS=>rH P fn.results.toList A S λvs=>match vs with | [v]=>K v S | vs=>K (.tuple ⟨vs⟩) S⟩
  | none=>⟨λ_ _ _ _=>false⟩
 | none=>⟨λ_ _ _ _=>false⟩
theorem aMq(E:Env)(f:FuncId)(args:List Value)(S:St)(K:VK):(fnL E.P f).f E args S K=VH E (Ex E) f args S K:=by
 unfold fnL VH;cases E.P.funcs[f]? with
 | none=>rfl
 | some fn=>
  simp only;cases fn.body with
  | none=>rfl
  | some c=>simp only [Zj]<;>rfl
def Kp(P:Program)(E:Env)(l:Nat)(args:List Value)(S:St)(K:VK):Bool:=
 oV S.h l λo=>match o with
  | .loop tmps params assign body _ _=>
   let laid:List Tmp->List Value->Tm->(Tm->Bool)->Bool:=λps=>fS (β:=List Value->Tm->(Tm->Bool)->Bool)
    (λas ts k=>match as with | []=>k ts | _=>false) (λp _ ih as ts k=>match as with | a::as=>sB a ts p λts=>ih as ts k | []=>false) ps
   laid params args tmps λts=>(QH P assign).f E (some l) ⟨ts,[],P.globals.size⟩ S λe A S=>match e with
    | .normal=>oV S.h l λo=>match o with
     | .loop tm ps as bo .ready pe=>rE S l (.loop tm ps as bo .busy pe) λS=>(QH P body).f E (some l) A S λe _ S=>
      oV S.h l λo=>match o with
       | .loop tm ps as bo _ _=>match e with
        | .normal=>rE S l (.loop tm ps as bo .ready none) λS=>K (.bool true) S
        | .ret=>rE S l (.loop tm ps as bo .done (some .ret)) λS=>K (.bool false) S
        | .exit id=>rE S l (.loop tm ps as bo .done (some (.exit id))) λS=>K (.bool false) S
       | _=>false
     | _=>false
    | _=>false
  | _=>false
theorem aE8(E:Env)(l:Nat)(args:List Value)(S:St)(K:VK):Kp E.P E l args S K=Bq E (Ex E) l args S K:=by
 unfold Kp Bq;simp only [Zj]<;>rfl
def aGV(P:Program)(ov:FuncId->Option (List Value->St->VK->Bool))(most:Nat)(n:Nat):Env:=
 ML (β:=Env) {P,ov,call:=λ_ _ _ _=>false,round:=λ_ _ _ _=>false,most}
  (λ_ E=>{P,ov,call:=λf args S K=>match ov f with | some g=>g args S K | none=>(fnL P f).f E args S K,round:=λl args S K=>Kp P E l args S K,most}) n
theorem aJ0(P:Program)(ov:FuncId->Option (List Value->St->VK->Bool))(most:Nat):∀n,aGV P ov most n=env P ov Ex most n:=by
 intro n;induction n with
 | zero=>rfl
 | succ n ih=>
  have hP:=aLD P ov Ex most n
  have h1:∀f args S K,(fnL P f).f (env P ov Ex most n) args S K=VH (env P ov Ex most n) (Ex (env P ov Ex most n)) f args S K:=by
   intro f args S K;rw [<-aMq,hP]
  have h2:∀l args S K,Kp P (env P ov Ex most n) l args S K=Bq (env P ov Ex most n) (Ex (env P ov Ex most n)) l args S K:=by
   intro l args S K;rw [<-aE8,hP]
  show({P,ov,call:=λf args S K=>match ov f with | some g=>g args S K | none=>(fnL P f).f (aGV P ov most n) args S K,round:=λl args S K=>Kp P (aGV P ov most n) l args S K,most}:Env)=_;rw [ih];simp only [h1,h2];rfl
theorem aB3{P:Program}{ov:FuncId->Option (List Value->St->VK->Bool)}{most n:Nat}{w0:World}(hov:Gq P w0 ov)(GT:∀(f:FuncId) (fn:Func),P.funcs[f]? =some fn->fn.name≠ "runtime.NumGoroutine")(hm:P.follows .mixedOrders=true):
 iU P w0 (aGV P ov most n).call:=by
 rw [aJ0];exact(aEU (w0:=w0) (ov:=ov) (dr:=Ex) (most:=most) hov GT (λE hE hc hr=>aGW (by rw [hE];exact hc) (by rw [hE];exact hr) (by rw [hE];exact hm)) n).1
section
variable{P:Program}{w0:World}{U:Rn}{S:St}{w w':World}
theorem Lf(hw:Below w0.heap.size w0 w)(hb:Below w.heap.size w w'):Below w0.heap.size w0 w':=hw.trans (hb.mono hw.size)
theorem Rel.below(h:Rel P w0 U S w)(hb:Below w.heap.size w w'):Rel P w0 U S w'/\uI U w U w':=
 ⟨⟨h.Gl,λi o hi=>(h.GO i o hi).frame (.refl U) λL hL=>hb.block _ (h.loc i L hL),h.Xc,h.lt,λi L hi=>DV (h.loc i L hi) hb.size,h.sep,h.old,Lf h.base hb⟩,
   .refl U,⟨hb.size,λc hc _=>hb.block c hc⟩,λ_ _ h=> .inl h⟩
theorem Rel.aHx(h:Rel P w0 U S w)(hb:Below w.heap.size w w')(o:iP)(L:Loc)(hL:w.heap.size<=L.b)(hL':L.b<w'.heap.size)
 (ho:∀U':Rn,Ext U U'->U' S.n=some L->BR P w0 U' w' S.n o) (Ej:o.olds=[]):
 Rel P w0 (U.put S.n L) (S.new o) w'/\uI U w (U.put S.n L) w':=by
 have IS:=h.Xc S.n (bI _);have he:Ext U (U.put S.n L):=Rn.IT IS;have hsz:=hb.size
 have pX:∀j M,U.put S.n L j=some M->(j=S.n/\M=L)\/(j≠S.n/\U j=some M):=λj M hj=>by
  unfold Rn.put at hj;by_cases e:j=S.n
  ·rw [if_pos e]at hj;injection hj with hj;exact .inl ⟨e,hj.symm⟩
  ·rw [if_neg e]at hj;exact .inr ⟨e,hj⟩
 have pM:∀j x,(S.new o).obj j=some x->(j=S.n/\x=o)\/(j≠S.n/\S.obj j=some x):=λj x hx=>by
  rw [MQ]at hx;by_cases e:j=S.n
  ·rw [if_pos e]at hx;injection hx with hx;exact .inl ⟨e,hx.symm⟩
  ·rw [if_neg e]at hx;exact .inr ⟨e,hx⟩
 refine⟨⟨λg hg=>let⟨M,h1,h2⟩:=h.Gl g hg;⟨M,he _ _ h1,h2⟩,λj x hx=>?_,λj hj=>?_,λj x hx=>?_,λj M hj=>?_,λi j a b M N XS ha TU hda hdb hM hN Gk=>?_,λj vs e olds hj i hi=>?_,Lf h.base hb⟩,he,⟨hsz,λc hc _=>hb.block c hc⟩,λj M hj=>?_⟩
 ·rcases pM j x hx with ⟨e,ex⟩ | ⟨e,hx⟩
  ·subst e ex;exact ho _ he (Rn.kD _ _ _)
  ·exact(h.GO j x hx).frame he λM hM=>hb.block _ (h.loc j M hM)
 ·have Ny:S.n+1<=j:=hj
  unfold Rn.put;rw [if_neg (by omega)];exact h.Xc j (by omega)
 ·rcases pM j x hx with ⟨e,_⟩ | ⟨_,hx⟩
  ·subst e;exact xS _
  ·exact oT (h.lt j x hx)
 ·rcases pX j M hj with ⟨_,e⟩ | ⟨_,hM⟩
  ·subst e;exact hL'
  ·have:=h.loc j M hM;omega
 ·rcases pX i M hM with ⟨ei,eM⟩ | ⟨ei,El⟩<;>rcases pX j N hN with ⟨ej,eN⟩ | ⟨ej,hN'⟩
  ·omega
  ·have:=h.loc j N hN';rw [eM]at Gk;omega
  ·have:=h.loc i M El;rw [eN]at Gk;omega
  ·rcases pM i a ha with ⟨e,_⟩ | ⟨_,ha'⟩
   ·exact absurd e ei
   ·rcases pM j b TU with ⟨e,_⟩ | ⟨_,aQt⟩
    ·exact absurd e ej
    ·exact h.sep i j a b M N XS ha' aQt hda hdb El hN' Gk
 ·rcases pM j _ hj with ⟨e1,e2⟩ | ⟨e1,Ny⟩
  ·rw [<-e2]at Ej
   simp only [iP.olds]at Ej;rw [Ej]at hi;cases hi
  ·obtain⟨h1,h2⟩:=h.old j vs e olds Ny i hi
   refine⟨oT h1,λx hx=>?_⟩;rcases pM i x hx with ⟨e3,_⟩ | ⟨e3,Eh⟩
   ·omega
   ·rcases h2 x Eh with h3 | ⟨ws,e',h3,h4⟩
    ·exact .inl h3
    ·refine .inr ⟨ws,e',h3,λL1 M Sz hM hb=>?_⟩
     rcases pX _ _ Sz with ⟨e4,_⟩ | ⟨_,aGL⟩
     ·exact absurd e4 e1
     ·rcases pX _ _ hM with ⟨e5,_⟩ | ⟨_,El⟩
      ·exact absurd e5 e3
      ·exact h4 L1 M aGL El hb
 ·rcases pX j M hj with ⟨_,e⟩ | ⟨_,hM⟩
  ·subst e;exact .inr (.inl hL)
  ·exact .inl hM
theorem Rel.aHy(h:Rel P w0 U S w)(hb:Below w.heap.size w w'){Gu:Nat}{cur:Array Value}{e:TypeId}{cs cs':List Value}{m:Nat}(hm:bP P e=some m)(hblk:w.heap.size<=Gu)
 (VT:w'.heap[Gu]? =some (.cells cur e (0,0))) (xV:lD U cs cs') (htk:cur.toList.take cs'.length=cs'):
 Rel P w0 (U.put S.n ⟨Gu,0,cur.size,m⟩) (S.new (.cells cs e (.grown []))) w'/\uI U w (U.put S.n ⟨Gu,0,cur.size,m⟩) w':=by
 refine h.aHx hb _ _ hblk (nN.1 VT).1 (λU' he hU'=>⟨_,cur,e,(0,0),hU',VT,λj v hj=>?_,?_⟩) rfl
 ·obtain⟨v',FG,hr⟩:=xV.get hj
  refine⟨v',?_,hr.mono he⟩;have hlt:j<cs'.length:=(dS.1 FG).1;rw [<-htk,kR,if_pos hlt]at FG;simpa using FG
 ·exact⟨tP h.base.size hblk,λx _ hx=>by simp at hx,rfl,hm,rfl⟩
theorem Rel.map'(h:Rel P w0 U S w){r:Nat}{es:List MapEntry}{c:Nat}(ho:S.obj r=some (.map es c)):∃(L:Loc) (iW:Array MapEntry),U r=some L/\w0.heap.size<=L.b/\w.heap[L.b]? =some (.map iW c)/\gA U es iW.toList:=by
 obtain⟨L,iW,h1,h2,h3,h4⟩:=h.GO r _ ho;exact⟨L,iW,h1,h2,h3,h4⟩
theorem aFl{α:Type}{t:Tr α}{n:Nat}{k:α->Bool}(h:oV t n k=true):∃x,t.get n=some x/\k x=true:=by
 rw [lV]at h;split at h
 ·rename_i x hx;exact⟨x,hx,h⟩
 ·cases h
end
structure Kr where
 g:Nat
 vs:List Value
 e:TypeId
 m:Nat
def Rn.laid(n:Nat)(l:List Kr):Rn:=λi=>if i<n then some ⟨i,0,0,match l.find? (λx=>x.g==i)with | some x=>x.m | none=>0⟩else none
def St.laid(n:Nat)(l:List Kr):St:=⟨l.foldr (λx h=>h.put x.g (.cells x.vs x.e .ro)) .leaf,n⟩
def GOk(P:Program)(l:List Kr):Prop:=(l.map (·.g)).Nodup/\∀x∈l,x.g<P.globals.size/\bP P x.e=some x.m/\∀v∈x.vs,bE v=true
def Laid(l:List Kr)(w:World):Prop:=∀x∈l,∃cs t fz,w.heap[x.g]? =some (.cells cs t fz)/\∀(j:Nat) (v:Value),x.vs[j]? =some v->cs[j]? =some v
theorem Laid.below{l:List Kr}{w w':World}{n:Nat}(h:Laid l w)(hb:Below n w w')(hn:∀x∈l,x.g<n):Laid l w':=by
 intro x hx;obtain⟨cs,t,fz,h1,h2⟩:=h x hx;exact⟨cs,t,fz,by rw [hb.block _ (hn x hx)];exact h1,h2⟩
theorem St.Ks{n:Nat}:∀{l:List Kr},(l.map (·.g)).Nodup->∀{i:Nat} {o:iP},(St.laid n l).obj i=some o->∃x∈l,x.g=i/\o= .cells x.vs x.e .ro:=by
 intro l;induction l with
 | nil=>intro _ i o h;cases h
 | cons y l ih=>
  intro hnd i o h;have hnd:=UV.1 (by simpa using hnd:(y.g::l.map (·.g)).Nodup);have h:((St.laid n l).h.put y.g (.cells y.vs y.e .ro)).get i=some o:=h;rw [xH]at h;split at h
  ·rename_i e
   injection h with h;exact⟨y,.head _,e.symm,h.symm⟩
  ·obtain⟨x,hx,h1,h2⟩:=ih hnd.2 h
   exact⟨x,.tail _ hx,h1,h2⟩
theorem Rel.laid{P:Program}{l:List Kr}{w:World}(hg:GOk P l)(hsz:P.globals.size<=w.heap.size)(h:Laid l w):Rel P w (Rn.laid P.globals.size l) (St.laid P.globals.size l) w:=by
 have hr:∀i L,Rn.laid P.globals.size l i=some L->i<P.globals.size/\L.b=i/\L.s=0:=by
  intro i L h;unfold Rn.laid at h;split at h
  ·rename_i hi;injection h with h;subst h;exact⟨hi,rfl,rfl⟩
  ·cases h
 have PU:∀i,i<P.globals.size->∃L,Rn.laid P.globals.size l i=some L/\L.b=i/\L.s=0:=λi hi=>⟨_,if_pos hi,rfl,rfl⟩;refine⟨PU,λi o ho=>?_,λi hi=>?_,λi o ho=>?_,λi L hi=>?_,λi j a b L M XS _ _ _ _ hL hM hb=>?_,λj vs e olds ho=>?_,⟨rfl,rfl,rfl,bI _,λ_ _=>rfl⟩⟩
 ·obtain⟨x,hx,rfl,rfl⟩:=St.Ks hg.1 ho
  obtain⟨cs,t,fz,h1,h2⟩:=h x hx;obtain⟨hlt,hm,Nm⟩:=hg.2 x hx
  have aGw:l.find? (λy=>y.g==x.g)=some x:=by
   have:∀(l:List Kr),(l.map (·.g)).Nodup->x∈l->l.find? (λy=>y.g==x.g)=some x:=by
    intro l;induction l with
    | nil=>intro _ h;cases h
    | cons y l ih=>
     intro hnd hx;have hnd:=UV.1 (by simpa using hnd:(y.g::l.map (·.g)).Nodup);rw [List.find?_cons];rcases dA.1 hx with e | hx
     ·subst e;simp
     ·have:y.g≠x.g:=λe=>hnd.1 (e▸mF.2 ⟨x,hx,rfl⟩)
      have hb:(y.g==x.g)=false:=by simpa using this
      rw [hb];exact ih hnd.2 hx
   exact this l hg.1 hx
  refine⟨⟨x.g,0,0,x.m⟩,cs,t,fz,by unfold Rn.laid;rw [if_pos hlt,aGw],h1,λj v hj=>⟨v,by simpa using h2 j v hj,.flat (Nm v (wI hj))⟩,hm⟩
 ·have:P.globals.size<=i:=hi
  unfold Rn.laid;rw [if_neg (by omega)]
 ·obtain⟨x,hx,rfl,_⟩:=St.Ks hg.1 ho
  exact(hg.2 x hx).1
 ·obtain⟨h1,h2,_⟩:=hr i L hi
  omega
 ·obtain⟨_,h2,_⟩:=hr i L hL
  obtain⟨_,h4,_⟩:=hr j M hM;omega
 ·obtain⟨x,_,_,h2⟩:=St.Ks hg.1 ho
  injection h2 with _ _ h2;cases h2
def QJ(a b:List Value):Bool:=
 fS (β:=List Value->Bool) (λb=>match b with | []=>true | _=>false) (λx _ ih b=>match b with | y::b=>(match Ep x y with | true=>ih b | false=>false) | []=>false) a b
theorem lD.aMr{U:Rn}{l:List Value}(h:∀v∈l,jV v=true):lD U l l:=
 ⟨rfl,λk v v' a b=>by rw [a]at b;injection b with b;subst b;exact .jV (h v (wI a))⟩
theorem Kt{U:Rn}:∀{a b b':List Value},(∀v∈a,jV v=true)->QJ a b=true->lD U b b'->b'=a:=by
 intro a;induction a with
 | nil=>
  intro b b' _ h hv;unfold QJ at h;rw [tD]at h;split at h
  ·exact hv.jP
  ·cases h
 | cons x a ih=>
  intro b b' hf h hv;unfold QJ at h;rw [aS]at h;split at h
  ·rename_i y t
   obtain⟨y',t',rfl,h1,h2⟩:=hv.cC;split at h
   ·rename_i hxy
    rw [ih (λv hv=>hf v (.tail _ hv)) h h2,<-IW hxy (.jV (hf x (.head _))) h1]
   ·cases h
  ·cases h
def Ey(tbl:List (List Value×Value))(args:List Value)(S:St)(K:VK):Bool:=
 fS (β:=Bool) false (λx _ ih=>dL (QJ x.1 args) (K x.2 S) ih) tbl
def answers(r v:Value):Bool:=Ep r v
def YK(P:Program)(ov:FuncId->Option (List Value->St->VK->Bool))(most n:Nat)(f:FuncId)(l:List Kr)(x:List Value×Value):Prop:=
 (∀v∈x.1,jV v=true)/\jV x.2=true/\(aGV P ov most n).call f x.1 (St.laid P.globals.size l) (λv _=>answers x.2 v)=true
theorem Hq{P:Program}{w0:World}{ov:FuncId->Option (List Value->St->VK->Bool)}{most n:Nat}{f:FuncId}{l:List Kr}{tbl:List (List Value×Value)}(hg:GOk P l)(hsz:P.globals.size<=w0.heap.size)(hl:Laid l w0)
 (hov:∀w,P.globals.size<=w.heap.size->Laid l w->Gq P w ov) (GT:∀(f:FuncId) (fn:Func),P.funcs[f]? =some fn->fn.name≠ "runtime.NumGoroutine") (hm:P.follows .mixedOrders=true)
 (hf:∀args w,(callFunc f args).run P w= .ok (.enter f args) w) (ht:∀x∈tbl,YK P ov most n f l x):
 iU P w0 (λf' args S K=>match Nat.beq f' f with | true=>Ey tbl args S K | false=>false):=by
 intro f' args S K U w dR hk hr ha;dsimp only at hk;split at hk
 ·rename_i hf'
  obtain rfl:f'=f:=by simpa using hf'
  refine⟨hf ⟨dR⟩,?_⟩;have Zl:P.globals.size<=w.heap.size:=tP hsz hr.base.size;have hlw:Laid l w:=hl.below hr.base λx hx=>DV (hg.2 x hx).1 hsz;revert hk;induction tbl with
  | nil=>intro hk;cases hk
  | cons x tbl ih=>
   intro hk;unfold Ey at hk;rw [aS]at hk;cases hs:QJ x.1 args with
   | false=>rw [hs]at hk;exact ih (λy hy=>ht y (.tail _ hy)) hk
   | true=>
    rw [hs]at hk;have hk:K x.2 S=true:=hk;obtain⟨m1,m2,m3⟩:=ht x (.head _);have NY:=Kt m1 hs ha;subst NY;obtain⟨_,OA⟩:=aB3 (w0:=w) (hov w Zl hlw) GT hm f' x.1 _ _ _ w x.1 m3 (Rel.laid hg Zl hlw) (lD.aMr m1);refine CallsIn.mono OA ?_
    rintro e w' ⟨v',rfl,U',v,S',hkv,hv,hrel,_⟩
    have FG:x.2=v':=IW hkv (.jV m2) hv;subst FG;obtain⟨h1,h2⟩:=hr.below hrel.base;exact⟨_,rfl,U,_,S,hk,.jV m2,h1,h2⟩
 ·cases hk
def AA(f:FuncId)(g:List Value->St->VK->Bool)(ov:FuncId->Option (List Value->St->VK->Bool))(f':FuncId):Option (List Value->St->VK->Bool):=dL (Nat.beq f' f) (some g) (ov f')
theorem yP{P:Program}{w0:World}{f:FuncId}{g:List Value->St->VK->Bool}{ov:FuncId->Option (List Value->St->VK->Bool)}(h:iU P w0 (λf' args S K=>match Nat.beq f' f with | true=>g args S K | false=>false))(hov:Gq P w0 ov):Gq P w0 (AA f g ov):=by
 intro f' g' hg;unfold AA at hg;cases hb:Nat.beq f' f with
 | true=>
  rw [hb]at hg;injection hg with hg;subst hg;obtain rfl:f'=f:=by simpa using hb
  exact h
 | false=>rw [hb]at hg;exact hov f' g' hg
section
variable{E:Env}{w0:World}
end
def rIf(c:Value)(a b:Bool):Bool:=match c with | .bool v=>dL v a b | _=>false
def aLI(c a b:Value)(K:Value->Bool):Bool:=match c with
 | .bool true=>K a
 | .bool false=>K b
 | _=>false
def rLd(a:Value)(S:St)(K:VK):Bool:=match a with
 | .pointer (some ⟨i,o,none⟩)=>wJ S i λvs _ _=>SZ vs o λv=>K v S
 | _=>false
def aG5(n:Nat)(a:Value)(S:St)(K:VK):Bool:=match a with
 | .pointer (some ⟨i,o,none⟩)=>EQ S i o n λl=>K (.agg ⟨l⟩) S
 | _=>false
def rSt(n:Nat)(a x:Value)(S:St)(k:St->Bool):Bool:=match a with
 | .pointer (some ⟨i,o,none⟩)=>oW x λcs=>CU cs λm=>match Nat.beq m n with
  | true=>pW S i o cs k
  | false=>false
 | _=>false
def Ck(zero:List Value)(t:TypeId)(S:St)(K:VK):Bool:=aJG zero λzero=>uH S (.cells zero t .exact) λi S=>K (.pointer (some ⟨i,0,none⟩)) S
def QP(parts:List (Nat×Nat×Value))(cells:List Value)(k:List Value->Bool):Bool:=
 fS (β:=List Value->Bool) (λcs=>k cs) (λp _ ih cs=>oW p.2.2 λnew=>CU new λm=>match Nat.beq m p.2.1 with
  | true=>rF p.1 new cs ih
  | false=>false) parts cells
def aCg(zero:List Value)(parts:List (Nat×Nat×Value))(K:Value->Bool):Bool:=QP parts zero λcs=>K (.agg ⟨cs⟩)
def Ub(elem:TypeId)(n:Nat)(zero:List Value)(parts:List (Nat×Nat×Value))(S:St)(K:VK):Bool:=
 Xm zero n λcs=>QP parts cs λcs=>uH S (.cells cs elem .exact) λi S=>K (.slice (some ⟨i,0,none⟩) n n) S
def aG6(off:Nat)(x:Value)(K:Value->Bool):Bool:=match x with
 | .pointer (some ⟨b,o,none⟩)=>cG (o+off) λo=>K (.pointer (some ⟨b,o,none⟩))
 | _=>false
def La(off:Nat)(x:Value)(K:Value->Bool):Bool:=match x with
 | .agg cs=>SZ cs.toList off K
 | _=>false
def YQ(off n:Nat)(x:Value)(K:Value->Bool):Bool:=match x with
 | .agg cs=>IM off cs.toList λl=>PE n l λl=>K (.agg ⟨l⟩)
 | _=>false
def aJ6(size:Nat)(x ix:Value)(K:Value->Bool):Bool:=match ix with
 | .int _ (.ofNat i)=>match x with
  | .slice (some ⟨b,o,sp⟩) len _=>match sp with
   | some (_+1)=>false
   | _=>match Nat.blt i len with
    | true=>cG (o+i*size) λo=>K (.pointer (some ⟨b,o,none⟩))
    | false=>false
  | _=>false
 | _=>false
def Tw(x ix:Value)(K:Value->Bool):Bool:=match ix with
 | .int _ (.ofNat i)=>match x with
  | .string s=>SZ s.data.toList i λb=>cG b.toNat λn=>K (.int .u8 (.ofNat n))
  | _=>false
 | _=>false
def aHd(i:Nat)(x:Value)(K:Value->Bool):Bool:=match x with
 | .tuple vs=>SZ vs.toList i λv=>K v
 | _=>false
def aHc(k:IntKind)(x:Value)(K:Value->Bool):Bool:=match x with
 | .int _ n=>KD k n λv=>K v
 | _=>false
def aDR(x:Value)(K:Value->Bool):Bool:=match x with
 | .slice _ n _=>K (.int .i64 (.ofNat n))
 | _=>false
def Zv(x:Value)(K:Value->Bool):Bool:=match x with
 | .string s=>CU s.data.toList λn=>K (.int .i64 (.ofNat n))
 | _=>false
def Zw(P:Program)(elem:TypeId)(size bytes:Nat)(s x:Value)(S:St)(K:VK):Bool:=match s with
 | .slice base sLen sCap=>KX x λn=>match n with
  | 0=>match Nat.ble sLen sCap with | true=>K (.slice base sLen sCap) S | false=>false
  | n'+1=>GJ S size (n'+1) x λnew=>cG (sLen+(n'+1)) λrX=>
   match EP rX bytes with
   | true=>match Nat.ble rX sCap with
    | true=>PK size new base sLen sCap rX S K
    | false=>XK P elem size new base sLen rX S K
   | false=>false
 | _=>false
def aJ8(P:Program)(v:Value)(K:Value->Bool):Bool:=match v with
 | .pointer (some a)=>K (.pointer (some a))
 | .func (.func f) a b=>K (.func (.func f) a b)
 | .func (.yield f) a b=>K (.func (.yield f) a b)
 | .func (.method s) ⟨[.iface t w]⟩ ⟨[]⟩=>match GK P t s with
  | some _=>K (.func (.method s) ⟨[.iface t w]⟩ ⟨[]⟩)
  | none=>false
 | .iface t w=>K (.iface t w)
 | _=>false
def aMy(call:aDw)(round:Nat->List Value->St->VK->Bool)(f:Value)(args:List Value)(S:St)(K:VK):Bool:=match f with
 | .func (.func g) first captured=>zN first.toList args λl=>zN l captured.toList λl=>call g l S K
 | .func (.yield l) first captured=>match first.toList,captured.toList with
  | [],[]=>round l args S K
  | _,_=>false
 | _=>false
def aQm(P:Program)(call:aDw)(r:Value)(m:String)(args:List Value)(S:St)(K:VK):Bool:=match r with
 | .iface t v=>match GK P t m with
  | some g=>call g (v::args) S K
  | none=>false
 | _=>false
def Ff(w:Bool)(v:Value)(k:Bool->Bool):Bool:=match v with
 | .bool b=>match b,w with | true,true | false,false=>k true | _,_=>k false
 | _=>k false
def Pz(v u:Value)(k:Bool):Bool:=match OB v u with | true=>k | false=>false
def aDS(P:Program)(as:TypeId)(ok:Bool)(v:Value)(K:Value->Bool):Bool:=match v,P.underlying as with
 | .iface _ _,some (.interface _)=>false
 | .iface t w,some _=>match Nat.beq t as,ok with
  | true,true=>K (.tuple ⟨[w,.bool true]⟩)
  | true,false=>K w
  | false,_=>false
 | _,_=>false
end Go.Am
namespace Go.Am
open Go.RowKit Go.MapKept
def Tx(w:Bool)(v:Value)(op:VK->Bool)(S:St)(k:VK):Bool:=Ff w v λb=>dL b (op k) (k undef S)
def shut(most:Nat)(b:Bool):Bool:=Nat.rec (motive:=λ_=>Bool->Bool) (λx=>x) (λ_ _ x=>x) most b
theorem Hu(most:Nat)(b:Bool):shut most b=b:=by cases most<;>rfl
def aOF(u:Value)(k:Bool):Bool:=match u with | .tuple ⟨[]⟩=>k | _=>false
def Ty(w:Bool)(v u:Value)(op:Bool->Bool)(k:Bool):Bool:=Ff w v λb=>dL b (op k) (aOF u k)
end Go.Am
namespace Go.Am
def aHb(P:Program)(op:BinOp)(t:TypeId)(a b:Value)(K:Value->Bool):Bool:=(aJS P op).f t a b K
theorem MY(P:Program)(op:BinOp)(t:TypeId)(a b:Value)(K:Value->Bool):aHb P op t a b K=VB P op t a b K:=aDE P op t a b K
def IY(g:Nat)(b:Bool)(o:Oper):Oper:=match o.guard with
 | some (j,w)=>match Nat.beq j g&&(w==b)with | true=>{o with guard:=none} | false=>o
 | none=>o
def eW(ops:Array Oper)(g:Nat)(b:Bool):Array Oper:=⟨ops.toList.map (IY g b)⟩
theorem yQ(g:Nat)(b:Bool)(o:Oper):IY g b o=o\/(IY g b o={o with guard:=none}/\o.guard=some (g,b)):=by
 unfold IY;split
 ·rename_i j w hg
  split
  ·rename_i h
   simp only [bW,beq_iff_eq]at h;have h1:=cT h.1;exact .inr ⟨rfl,by rw [hg,h1,h.2]⟩
  ·exact .inl rfl
 ·exact .inl rfl
theorem Px(g:Nat)(b:Bool)(o:Oper):(IY g b o).dst=o.dst:=by rcases yQ g b o with h | ⟨h,_⟩<;>rw [h]
theorem QL(g:Nat)(b:Bool)(o:Oper):(IY g b o).after=o.after:=by rcases yQ g b o with h | ⟨h,_⟩<;>rw [h]
theorem Kx(g:Nat)(b:Bool)(o:Oper):(IY g b o).op=o.op:=by rcases yQ g b o with h | ⟨h,_⟩<;>rw [h]
theorem sD(ops:Array Oper)(g:Nat)(b:Bool)(i:Nat):(eW ops g b)[i]? =ops[i]?.map (IY g b):=by
 unfold eW;simp
theorem KF(ops:Array Oper)(g:Nat)(b:Bool):(eW ops g b).size=ops.size:=by unfold eW;simp
theorem LK(ops:Array Oper)(g:Nat)(b:Bool)(t:Array Value):yielded (eW ops g b) t=yielded ops t:=by
 funext j
 unfold yielded;rw [sD];cases ops[j]? with
 | none=>rfl
 | some o=>simp only [zH,Bh,Px]
theorem QM{ops:Array Oper}{g:Nat}{b:Bool}{j e:Nat}:OC (eW ops g b) j e↔OC ops j e:=by
 unfold OC;rw [sD];cases ops[j]? with
 | none=>simp
 | some o=>
  constructor
  ·rintro⟨o',h,x,hx⟩
   injection h with h;subst h;rw [QL]at hx;exact⟨o,rfl,x,hx⟩
  ·rintro⟨o',h,x,hx⟩
   injection h with h;subst h;exact⟨_,rfl,x,by rw [QL];exact hx⟩
theorem GZ{ops:Array Oper}{g:Nat}{b:Bool}{t:Array Bool}{j:Nat}:j∈Region.ready .any (eW ops g b) t↔j∈Region.ready .any ops t:=by
 rw [kE,kE,KF];simp only [QM]
theorem Ky{ops:Array Oper}{g:Nat}{b:Bool}(h:Plain ops):Plain (eW ops g b):=by
 intro j o ho;rw [sD]at ho;cases hj:ops[j]? with
 | none=>rw [hj]at ho;cases ho
 | some q=>
  rw [hj]at ho;injection ho with ho;subst ho;rw [Kx];exact h j q hj
section
variable{P:Program}{ops:Array Oper}{ro:Option Nat}{Q:Exit->Act->World->Prop}
theorem aCb{j:Nat}{o:Oper}(hj:ops[j]? =some o){I:Array Value->Prop}{a:Act}{w:World}(hI:∀v,I (a.put o.dst v).tmps){K:Act->World->Prop}(h:wpOpIn (NZ ro) 0 P ops Q j K a w):wpOpIn (NZ ro) 0 P ops Q j (λa' w'=>I a'.tmps/\K a' w') a w:=by
 have hd:∀d:Deferred,I (({a with defers:=d::a.defers}:Act).put o.dst undef).tmps:=λd=>by
  have:=hI undef;unfold Act.put at this ⊢;cases hod:o.dst with
  | none=>rw [hod]at this;exact this
  | some d=>rw [hod]at this;exact this
 unfold wpOpIn at*;simp only [hj]at*;split
 ·rename_i hw
  simp only [hw,if_true]at h;unfold Oper.wpIn at*;refine⟨h.1,?_⟩;have h:=h.2;generalize (o.semAt (NZ ro).round a.eval).run P w=r at*;cases r with
  | ok x w'=>
   cases x<;>simp only [Oper.uponIn]at h ⊢
   case value=>exact⟨hI _,h⟩
   case skip=>exact⟨hI undef,h⟩
   case defer=>exact⟨hd _,h⟩
   case enter f args=>
    refine⟨h.1,CallsIn.mono h.2 λe w'' he=>?_⟩;cases e with
    | returned u=>exact⟨hI u,he⟩
    | panicked c=>exact he
    | outgrown=>exact he
   case row row args=>exact⟨h.1,RowsIn.mono h.2 λu w'' he=>⟨hI u,he⟩⟩
   case round l f tmps assign body=>
    refine⟨h.1,RoundIn.mono h.2 λe w'' he=>?_⟩;cases e with
    | returned u=>exact⟨hI u,he⟩
    | panicked c=>exact he
    | outgrown=>exact he
  | halt x w'=>
   cases x<;>simp only [Oper.uponIn]at h ⊢
   case panic u=>exact h
 ·rename_i hw
  simp only [hw]at h;exact⟨h.1,hI undef,h.2⟩
theorem aG2{g:Nat}{b:Bool}{o:Oper}{K:Act->World->Prop}{a:Act}{w:World}(h:(IY g b o).wpIn (NZ ro) 0 P a w K Q):o.wpIn (NZ ro) 0 P a w K Q:=by
 rcases yQ g b o with e | ⟨e,_⟩
 ·rw [e]at h;exact h
 ·rw [e]at h;exact h
theorem aCc{g:Nat}{b:Bool}{j:Nat}{K:Act->World->Prop}{a:Act}{w:World}(hg:yielded ops a.tmps g=some b)(h:wpOpIn (NZ ro) 0 P (eW ops g b) Q j K a w):wpOpIn (NZ ro) 0 P ops Q j K a w:=by
 unfold wpOpIn at*;rw [sD,LK]at h;cases hj:ops[j]? with
 | none=>rw [hj]at h;exact h
 | some o=>
  rw [hj]at h;simp only [zH]at h ⊢;rcases yQ g b o with e | ⟨e,hgd⟩
  ·rw [e]at h;exact h
  ·have h1:Region.wanted (IY g b o) (yielded ops a.tmps)=true:=by rw [e];rfl
   have h2:Region.wanted o (yielded ops a.tmps)=true:=by
    unfold Region.wanted;rw [hgd];simp [hg]
   rw [if_pos h1]at h;rw [if_pos h2];exact aG2 h
def Py(ops:Array Oper)(g:Nat)(t:Tmp)(L:Array Bool):Prop:=(∃o,ops[g]? =some o/\o.dst=some t)/\∀j o,ops[j]? =some o->¬On L j->j<L.size->o.dst≠some t
theorem Py.mono{g:Nat}{t:Tmp}{L:Array Bool}{i:Nat}(h:Py ops g t L)(hi:i<L.size):Py ops g t (L.setIfInBounds i true):=⟨h.1,λj o ho hn hl=>h.2 j o ho (λc=>hn ((On.set hi).2 (.inl c))) (by simpa using hl)⟩
theorem Yl.res{g i:Nat}{b:Bool}{v:Value}{a:Act}{w:World}(hg:yielded ops a.tmps g=some b):Yl P (eW ops g b) i v a w↔Yl P ops i v a w:=by
 unfold Yl;rw [sD,LK];cases ops[i]? with
 | none=>simp
 | some o=>
  rcases yQ g b o with e | ⟨e,hgd⟩
  ·simp only [zH,e]
  ·have h1:Region.wanted (IY g b o) (yielded ops a.tmps)=true:=by rw [e];rfl
   have h2:Region.wanted o (yielded ops a.tmps)=true:=by
    unfold Region.wanted;rw [hgd];simp [hg]
   have h3:execOp a.eval (IY g b o)=execOp a.eval o:=by rw [e];rfl
   constructor
   ·rintro⟨q,hq,h⟩
    simp only [zH]at hq;injection hq with hq;subst hq;rw [h1,h3]at h;exact⟨o,rfl,by rw [h2];exact h⟩
   ·rintro⟨q,hq,h⟩
    injection hq with hq;subst hq;rw [h2]at h;exact⟨_,rfl,by rw [h1,h3];exact h⟩
theorem aJ5{g j i:Nat}{b:Bool}:dep (eW ops g b) j i=dep ops j i:=by
 unfold dep;rw [sD];cases ops[j]? with
 | none=>rfl
 | some o=>simp only [zH,QL]
theorem zV.res{g:Nat}{b:Bool}{t:Tmp}:∀{f:Nat} {J:List (Nat×Value)} {L:Array Bool} {a:Act} {w:World},Py ops g t L->yielded ops a.tmps g=some b->zV ro P (eW ops g b) Q f J L a w->zV ro P ops Q f J L a w:=by
 have hr:∀{L:Array Bool},Region.ready .any (eW ops g b) L=[]↔Region.ready .any ops L=[]:=λ{L}=>by
  rw [List.eq_nil_iff_forall_not_mem,List.eq_nil_iff_forall_not_mem];exact⟨λh j hj=>h j (GZ.2 hj),λh j hj=>h j (GZ.1 hj)⟩
 intro f;induction f with
 | zero=>intro J L a w hs hg h;exact⟨λp hp=>(Yl.res hg).1 (h.1 p hp),hr.1 h.2.1,h.2.2⟩
 | succ f ih=>
  intro J L a w hs hg h;refine⟨λp hp=>(Yl.res hg).1 (h.1 p hp),λe=>h.2.1 (hr.2 e),λj hj=>?_⟩;have h1:=aCc hg (h.2.2 j (GZ.2 hj));obtain⟨⟨hlt,IF⟩,hjs,_⟩:=kE.1 hj;have ho:ops[j]? =some ops[j]:=Aw hjs;have wC:=hs.2 j _ ho IF hlt
  have h2:=aCb (I:=λt=>yielded ops t g=some b) ho (λv=>by
   obtain⟨o,hog,hot⟩:=hs.1;unfold yielded at hg ⊢;rw [hog]at hg ⊢;simp only [Bh,hot]at hg ⊢
   have:(a.put ops[j].dst v).tmps[t]? =a.tmps[t]? :=by
    unfold Act.put;cases hd:ops[j].dst with
    | none=>rfl
    | some d=>
     have hdt:d≠t:=λc=>wC (by rw [hd,c]);simp [aBx hdt]
   rw [this];exact hg) h1
  refine wpOpIn_mono (λa' w' hk=>?_) h2;simp only [aJ5]at hk;exact ih (hs.mono hlt) hk.1 hk.2
theorem Kn.res{g:Nat}{b:Bool}{a:Act}{w:World}{p:Nat×Value}(hg:yielded ops a.tmps g=some b)(h:Kn P ops a w p):Kn P (eW ops g b) a w p:=by
 have pu:∀o,pY P (IY g b o)=pY P o:=λo=>by unfold pY;rw [Kx]
 have lo:∀o,zW (IY g b o)=zW o:=λo=>by unfold zW;rw [Kx]
 rcases h with ⟨o,h1,h2,h3⟩ | ⟨o,d,h1,h2,h3,h4,h5⟩
 ·exact .inl ⟨_,by rw [sD,h1];rfl,by rw [pu];exact h2,λw=>(Yl.res hg).2 (h3 w)⟩
 ·exact .inr ⟨_,d,by rw [sD,h1];rfl,by rw [lo];exact h2,(Yl.res hg).2 h3,by rw [Px];exact h4,h5⟩
end
section
variable{E:Env}{w0:World}{ops:Array Oper}
theorem Inv.cut{U0:Rn}{wa:World}{L:Array Bool}{taken:List Nat}{m:Nat}{L':Array Bool}{X:List (Nat×Option Nat)}{J:List (Nat×Value)}{U:Rn}{A:aO}{a:Act}{S:St}{w:World}{c:Array Bool×List Nat}{g:Nat}{b:Bool}
 (h:Inv E w0 ops U0 wa L taken m L' X J U A a S w) (hc:GY E.P ops ops.size L []=c) (Ht:c.2=[]) (IF:∀i∈Region.ready .any ops c.1,lF E.P ops i=false) (hgb:∀j,On L j->EB E.P (eW ops g b) j=false) (hg:yielded ops a.tmps g=some b):
 Inv E w0 (eW ops g b) U0 wa L taken m L' [] J U A a S w:=by
 obtain⟨mm,h1,h2,h3,h4,h5,h6⟩:=yO _ _ _ hc
 have e2:mm=[]:=by have:c.2=mm:=by rw [h1];rfl
                   rw [<-this];exact Ht
 subst e2
 have hX:X=[]:=by
  cases X with
  | nil=>rfl
  | cons p X=>
   have PU:On c.1 p.1:=Zg h.szL hc IF _ [] h.xr (by simp) (λi hi=>by
    rw [UT,mF]at hi;obtain⟨p,hp,rfl⟩:=hi;exact⟨(h.xl p hp).2.1,YI (h.xl p hp).2.1⟩) p.1 (by rw [UT,mF];exact⟨p,.head _,rfl⟩)
   rcases(h3 p.1).1 PU with q | q
   ·exact absurd q (h.xl p (.head _)).2.2
   ·cases q
 subst hX;exact⟨h.hs,h.stp,by rw [KF];exact h.szL,by rw [KF];exact h.sz,h.on,λj hj e he=>h.down j hj e (QM.1 he),by simp,by simp,by simp,by simp,by simp,hgb,λp hp=>⟨(h.jf p hp).1,Kn.res hg (h.jf p hp).2⟩,h.fuel,trivial,by simp⟩
end
abbrev aMw:=Nat×Bool×Array Bool×List Nat
def UC(P:Program)(ops:Array Oper):Nat->List Nat->Array Bool->List Nat->Option (List wD×Option aMw)
 | 0,_,_,_=>none
 | f+1,i::is,listed,taken=>match ops[i]? with
  | some o=>match neutral P o&&IX ops listed i with
   | true=>match Zq ops listed i&&BV ops o&&taken.all (leaves ops o)&&(pY P o || jD ops i)with
    | true=>Cf (listed.setIfInBounds i true) λt=>(UC P ops f is t (i::taken)).map λp=>(.take i::p.1,p.2)
    | false=>UC P ops f is listed taken
   | false=>UC P ops f is listed taken
  | none=>none
 | f+1,[],listed,taken=>
  Cg P ops (List.range ops.size) listed [] λc1 c2=>
  let mP:=c2.map λd=>(d,sM P ops c2 d)
  let yC:=match c2 with | []=>[] | _=>taken.filter (jD ops)
  match c2.all λd=>zY ops d&&(match ops[d]? with | some o=>BV ops o&&(taken.filter λp=> !dep ops d p).all (leaves ops o) | none=>false)with
  | true=>match Region.ready .any ops c1 with
   | []=>some ([.fin yC mP (c2.filter λi=> !EB P ops i)],none)
   | [r]=>match ops[r]? with
    | some o=>
     let D:=sM P ops c2 r
     let qA:=taken.filter λp=> !dep ops r p&&D.all λd=> !dep ops d p
     match qA.all (leaves ops o)&& !lF P ops r with
     | true=>Cf ((D.foldl (λt i=>t.setIfInBounds i true) listed).setIfInBounds r true) λt=>(UC P ops f (List.range ops.size) t qA).map λp=>(.Ps yC mP D r (qA.filter (jD ops))::p.1,p.2)
     | false=>none
    | none=>none
   | r::_=>match(ops[r]?).bind (·.guard)with
    | some (g,b)=>some ([],some (g,b,listed,taken))
    | none=>none
  | false=>none
def aG3(P:Program)(ops:Array Oper)(g:Nat)(t:Tmp)(b:Bool)(L:Array Bool):Bool:=
 (match ops[g]? with | some o=>o.dst==some t | none=>false)&&((List.range ops.size).all (λj=>L.getD j false || (match ops[j]? with | some o=>o.dst != some t | none=>true))&&((match GY P ops ops.size L []with | (c1,[])=>(Region.ready .any ops c1).all λi=> !lF P ops i | _=>false)&&(List.range ops.size).all λj=> !L.getD j false || !EB P (eW ops g b) j))
inductive QN where
 | fin (l:List wD)
 | cut (l:List wD) (g:Nat) (t:Tmp) (b:Bool) (r:QN)
def YN(P:Program):Nat->Array Oper->Array Bool->List Nat->Option QN
 | 0,_,_,_=>none
 | f+1,ops,L,taken=>match UC P ops ((ops.size+1)*(ops.size+2)) (List.range ops.size) L taken with
  | some (l,none)=>some (.fin l)
  | some (l,some (g,b,L1,t1))=>match(ops[g]?).bind (·.dst)with
   | some t=>match aG3 P ops g t b L1 with
    | true=>(YN P f (eW ops g b) L1 t1).map (.cut l g t b)
    | false=>none
   | none=>none
  | none=>none
def Tt:QN->List Nat
 | .fin l=>LG l
 | .cut l _ _ _ r=>LG l++Tt r
def vR(E:Env)(ops:Array Oper)(l:List wD)(A:aO)(S:St)(k:aO->St->Bool):Bool:=
 fS (β:=aO->St->Bool) (λA S=>k A S) (λs _ ih A S=>match s with
  | .take i=>match ops[i]? with
   | some o=>VD E ops o A S ih
   | none=>false
  | .Ps yC mP D r BX=>match ops[r]? with
   | some o=>wL E ops A S yC (OR E ops A S mP (nI E ops D A S λA S=>VD E ops o A S λA S=>wL E ops A S BX (ih A S)))
   | none=>false
  | .fin _ _ _=>false) l A S
def YO(A:aO)(t:Tmp)(b:Bool)(k:Bool):Bool:=SC A.tmps t λv=>match v with
 | .bool b'=>match b,b' with | true,true=>k | false,false=>k | _,_=>false
 | _=>false
def QO(E:Env):QN->Array Oper->aO->St->(aO->St->Bool)->Bool
 | .fin l,ops,A,S,k=>lW E ops l A S k
 | .cut l g t b r,ops,A,S,k=>vR E ops l A S λA S=>YO A t b (QO E r (eW ops g b) A S k)
def Fd(E:Env)(ops:Array Oper)(cut:Option aMw)(steps:List wD)(A:aO)(S:St)(k kc:aO->St->Bool):Bool:=match cut with | none=>lW E ops steps A S k | some _=>vR E ops steps A S kc
section
variable{E:Env}{w0:World}
theorem Fe(hc:iU E.P w0 E.call)(hr:nH E.P w0 E.round){ops:Array Oper}(rY:Plain ops){ro:Option Nat}{Q:Exit->Act->World->Prop}(hQp:∀c a w,¬Q (.panic c) a w){k:aO->St->Bool}{U0:Rn}{wa:World}(XD:w0.heap.size<=wa.heap.size)
 (hQ:∀a' w',Next E.P w0 U0 wa k a' w'->Q .normal a' w') {cut:Option aMw} {kc:aO->St->Bool}
 (aQk:∀g b L1 t1,cut=some (g,b,L1,t1)->∀{m:Nat} {L':Array Bool} {X:List (Nat×Option Nat)} {J:List (Nat×Value)} {U:Rn} {A:aO} {a:Act} {S:St} {w:World},kc A S=true->Inv E w0 ops U0 wa L1 t1 m L' X J U A a S w->zV ro E.P ops Q m J L' a w):
 ∀(f:Nat) (is:List Nat) (L:Array Bool) (taken:List Nat) (steps:List wD),UC E.P ops f is L taken=some (steps,cut)->
 ∀{m:Nat} {L':Array Bool} {X:List (Nat×Option Nat)} {J:List (Nat×Value)} {U:Rn} {A:aO} {a:Act} {S:St} {w:World},Fd E ops cut steps A S k kc=true->Inv E w0 ops U0 wa L taken m L' X J U A a S w->zV ro E.P ops Q m J L' a w:=by
 intro f;induction f with
 | zero=>intro is L taken steps hp;cases hp
 | succ f ih=>
  intro is L taken steps hp m L' X J U A a S w hk h;cases is with
  | cons i is=>
   unfold UC at hp;simp only [LI]at hp;split at hp
   ·rename_i o ho
    split at hp
    ·rename_i VQ
     rw [bW]at VQ;obtain⟨VQ,hrd⟩:=VQ;have aGT:=QG.1 hrd;split at hp
     ·rename_i Tn
      simp only [bW]at Tn;obtain⟨⟨⟨ES,IV⟩,pZ⟩,pQ⟩:=Tn;cases uX:UC E.P ops f is (L.setIfInBounds i true) (i::taken)with
      | none=>rw [uX]at hp;cases hp
      | some rest=>
       obtain⟨rest,aG4⟩:=rest;rw [uX]at hp;simp only [zH]at hp;injection hp with hp;injection hp with hp1 hp2;subst hp1 hp2
       have wU:VD E ops o A S (λA S=>Fd E ops aG4 rest A S k kc)=true:=by
        cases aG4 with
        | none=>
         unfold Fd at hk ⊢;simp only at hk ⊢;unfold lW at hk;rw [aS]at hk;simp only [ho]at hk;exact hk
        | some q=>
         unfold Fd at hk ⊢;simp only at hk ⊢;unfold vR at hk;rw [aS]at hk;simp only [ho]at hk;exact hk
       exact Inv.Zf hQp rY XD ho aGT VQ (Kw ES) IV pZ pQ wU (λwU h'=>ih _ _ _ _ uX wU h') h
     ·exact ih _ _ _ _ hp hk h
    ·exact ih _ _ _ _ hp hk h
   ·cases hp
  | nil=>
   unfold UC at hp;rw [Pv]at hp;simp only [LI]at hp;generalize Ed:GY E.P ops ops.size L []=c at hp;have aQl:GX E.P ops (List.range ops.size) L []=c:=Ed;simp only [aQl]at hp;split at hp
   ·rename_i Cd
    split at hp
    ·rename_i rJ
     injection hp with hp;injection hp with hp1 hp2;subst hp1 hp2;unfold Fd at hk;simp only at hk;unfold lW at hk;rw [aS]at hk;simp only at hk;obtain⟨LH,hk⟩:=To h.hs Ed Cd hk;exact Inv.aDN rY XD LH rJ hk hQ m h
    ·rename_i r rJ
     split at hp
     ·rename_i o ho
      split at hp
      ·rename_i pZ
       simp only [bW,xR]at pZ;obtain⟨pZ,MB⟩:=pZ;generalize uX:UC E.P ops f _ _ _=rest at hp;cases rest with
       | none=>cases hp
       | some rest=>
        obtain⟨rest,aG4⟩:=rest;simp only [zH]at hp;injection hp with hp;injection hp with hp1 hp2;subst hp1 hp2
        have wU:wL E ops A S (match c.2 with | []=>[] | _=>taken.filter (jD ops)) (OR E ops A S (c.2.map λd=>(d,sM E.P ops c.2 d)) (nI E ops (sM E.P ops c.2 r) A S λA S=>VD E ops o A S λA S=>wL E ops A S ((taken.filter λp=> !dep ops r p&&(sM E.P ops c.2 r).all λd=> !dep ops d p).filter (jD ops)) ((λA S=>Fd E ops aG4 rest A S k kc) A S)))=true:=by
         cases aG4 with
         | none=>
          unfold Fd at hk ⊢;simp only at hk ⊢;unfold lW at hk;rw [aS]at hk;simp only [ho]at hk;exact hk
         | some q=>
          unfold Fd at hk ⊢;simp only at hk ⊢;unfold vR at hk;rw [aS]at hk;simp only [ho]at hk;exact hk
        obtain⟨LH,hk⟩:=To h.hs Ed Cd wU;exact Inv.aDM hc hr rY XD LH ho rJ MB rfl rfl pZ hk (λwU h'=>ih _ _ _ _ uX wU h') m h
      ·cases hp
     ·cases hp
    ·split at hp
     ·injection hp with hp
      injection hp with hp1 hp2;subst hp1 hp2;exact aQk _ _ _ _ rfl hk h
     ·cases hp
   ·cases hp
theorem aCd{P:Program}{ops:Array Oper}{g:Nat}{t:Tmp}{b:Bool}{L:Array Bool}(h:aG3 P ops g t b L=true)(hsz:L.size=ops.size):
 Py ops g t L/\(∃c,GY P ops ops.size L []=c/\c.2=[]/\∀i∈Region.ready .any ops c.1,lF P ops i=false)/\∀j,On L j->EB P (eW ops g b) j=false:=by
 unfold aG3 at h;simp only [bW]at h;obtain⟨h1,h2,h3,h4⟩:=h;refine⟨⟨?_,λj o ho hn hl c=>?_⟩,?_,λj hj=>?_⟩
 ·split at h1
  ·rename_i o ho;exact⟨o,ho,by simpa using h1⟩
  ·cases h1
 ·have:=dJ.1 h2 j (PC.2 (by omega))
  rw [ho]at this;simp only [OZ,bne_iff_ne,ne_eq]at this;rcases this with q | q
  ·exact hn q
  ·exact q c
 ·split at h3
  ·rename_i c1 Ed
   exact⟨_,Ed,rfl,λi hi=>by have:=dJ.1 h3 i hi;simpa using this⟩
  ·cases h3
 ·have:=dJ.1 h4 j (PC.2 (by have:=hj.lt;omega))
  simp only [OZ,xR]at this;rcases this with q | q
  ·have Ny:L.getD j false=true:=hj
   rw [q]at Ny;cases Ny
  ·exact q
theorem aCe{A:aO}{t:Tmp}{b k:Bool}(h:YO A t b k=true):A.tmps.t.get t=some (.bool b)/\k=true:=by
 unfold YO at h;obtain⟨x,hx,h⟩:=CZ h;split at h
 ·rename_i b'
  cases b<;>cases b'<;>first | exact⟨hx,h⟩ | cases h
 ·cases h
theorem Zs(hc:iU E.P w0 E.call)(hr:nH E.P w0 E.round){ro:Option Nat}{Q:Exit->Act->World->Prop}(hQp:∀c a w,¬Q (.panic c) a w){k:aO->St->Bool}{U0:Rn}{wa:World}(XD:w0.heap.size<=wa.heap.size)
 (hQ:∀a' w',Next E.P w0 U0 wa k a' w'->Q .normal a' w'):∀(f:Nat) (ops:Array Oper) (L:Array Bool) (taken:List Nat) (p:QN),Plain ops->YN E.P f ops L taken=some p->
 ∀{m:Nat} {L':Array Bool} {X:List (Nat×Option Nat)} {J:List (Nat×Value)} {U:Rn} {A:aO} {a:Act} {S:St} {w:World},QO E p ops A S k=true->Inv E w0 ops U0 wa L taken m L' X J U A a S w->zV ro E.P ops Q m J L' a w:=by
 intro f;induction f with
 | zero=>intro ops L taken p _ hp;cases hp
 | succ f ih=>
  intro ops L taken p rY hp m L' X J U A a S w hk h;unfold YN at hp;split at hp
  ·rename_i l hl
   injection hp with hp;subst hp;exact Fe hc hr rY hQp XD hQ (kc:=λ_ _=>false) (λg b L1 t1 e=>by cases e) _ _ _ _ _ hl hk h
  ·rename_i l g b L1 t1 hl
   split at hp
   ·rename_i t ht
    split at hp
    ·rename_i Cd
     cases uX:YN E.P f (eW ops g b) L1 t1 with
     | none=>rw [uX]at hp;cases hp
     | some r=>
      rw [uX]at hp;injection hp with hp;subst hp;refine Fe hc hr rY hQp XD hQ (kc:=λA S=>YO A t b (QO E r (eW ops g b) A S k)) (λg' b' L1' t1' e=>?_) _ _ _ _ _ hl hk h;injection e with e;injection e with e1 e;injection e with e2 e;injection e with e3 e4;subst e1 e2 e3 e4;intro m L' X J U A a S w hk h;obtain⟨Gn,hk⟩:=aCe hk;obtain⟨Xe,⟨c,Ed,Ht,IF⟩,hgb⟩:=aCd Cd h.szL;obtain⟨x',Eh,hv⟩:=h.hs.act.tmps.get Gn;have hx:x'= .bool b:=by cases hv;rfl
      have hy:yielded ops a.tmps g=some b:=by
       obtain⟨o,hog,hot⟩:=Xe.1;unfold yielded;rw [hog];simp only [Bh,hot];have:a.tmps[t]? =some x':=by rw [<-Eh];simp
       rw [this,hx]
      have h2:=ih (eW ops g b) L1 t1 r (Ky rY) uX hk (h.cut Ed Ht IF hgb hy);have aGK:Py ops g t L':=⟨Xe.1,λj o ho hn hl=>Xe.2 j o ho (λq=>hn ((h.on j).2 (.inl q))) (by rw [h.szL];rw [h.sz]at hl;exact hl)⟩;exact zV.res aGK hy h2
    ·cases hp
   ·cases hp
  ·cases hp
def drG(E:Env)(ops:Array Oper)(A:aO)(S:St)(k:aO->St->Bool):Bool:=
 match YJ E.P ops with
 | some l=>QF ops (LG l) A λA=>lW E ops l A S k
 | none=>match GV ops with
  | true=>match YN E.P (ops.size+1) ops ⟨List.replicate ops.size false⟩ []with
   | some p=>QF ops (Tt p) A λA=>QO E p ops A S k
   | none=>false
  | false=>false
theorem aMx(hc:iU E.P w0 E.call)(hr:nH E.P w0 E.round)(hm:E.P.follows .mixedOrders=true):aET E w0 (drG E):=by
 intro ops A S k U a w ro id Q hk hs hQ;unfold drG at hk;split at hk
 ·rename_i l hl
  exact aGW hc hr hm ops A S k U a w ro id Q (by unfold Ex;rw [hl];exact hk) hs hQ
 ·split at hk
  ·rename_i aCa
   split at hk
   ·rename_i p hp
    have rY:=UA aCa;obtain⟨A',hk,hA',hmk⟩:=Kl hs.act hk
    let Q0:Exit->Act->World->Prop:=λe a' w'=>e= .normal/\Next E.P w0 U w k a' w'
    have IF:∀j,¬On (⟨List.replicate ops.size false⟩:Array Bool) j:=λj h=>by
     unfold On at h;rcases zJ j ops.size with h' | h'
     ·simp [h']at h
     ·simp [h']at h
    have aMv:rem (⟨List.replicate ops.size false⟩:Array Bool)<=ops.size:=by
     unfold rem;refine tP (List.countP_le_length) ?_;simp
    have h:=Zs hc hr (ro:=ro) (Q:=Q0) (λc a w h=>by cases h.1) (U0:=U) (wa:=w) hs.rel.base.size (λa' w' h=>⟨rfl,h⟩) _ _ _ _ p rY hp (m:=ops.size) (X:=[]) (J:=[]) hk
     ⟨⟨hA',hs.rel.drew,by rw [hmk];exact hs.marks⟩,uI.drew U w,by simp,by simp,λj=>by simp,λj h=>absurd h (IF j),by simp,by simp,by simp,by simp,by simp,λj h=>absurd h (IF j),by simp,aMv,trivial,by simp⟩
    exact wpIn_mono (wpIn_region_any hm h.any) λe a' w' hq=>by obtain⟨rfl,hn⟩:=hq;exact hQ a' w' hn
   ·cases hk
  ·cases hk
end
end Go.Am
