/- AM: the evaluator for open statements: loops work on the values of their live temporaries. -/
import Derived.Test.YtcikbnhbihljmaaGreatGb

namespace Go.Am
open Go.RowKit Go.MapKept
structure oC where
 loop:Nat->List Nat×List Nat×List Nat
 join:Nat->Option (List Nat)
def nH:Code->Option Nat
 | .region i _ _=>some i
 | .seq a b=>match nH a with | some i=>some i | none=>nH b
 | .cond _ a b=>match nH a with | some i=>some i | none=>nH b
 | .block _ a=>nH a
 | .loop a=>nH a
 | .scope a=>nH a
 | .rangeFunc _ _ a b=>match nH a with | some i=>some i | none=>nH b
 | _=>none
def rI (tb:oC) (a:Code):List Nat:=match nH a with | some i=>(tb.loop i).1 | none=>[]
def outOf (tb:oC) (a:Code) (e:rD):List Nat:=match nH a with
 | some i=>match e with | .ret=>(tb.loop i).2.2 | _=>(tb.loop i).2.1
 | none=>[]
def xE (tb:oC) (b:Code):Option (List Nat):=match nH b with | some i=>tb.join i | none=>none
noncomputable def tR (l:List Nat) (A:aX) (k:List Value->Bool):Bool:=
 fD (β:=(List Value->Bool)->Bool) (fun k=>k []) (fun i _ ih k=>JE A.tmps i fun v=>ih fun vs=>k (v::vs)) l k
noncomputable def canonK (l:List Nat) (vs:List Value) (nt g:Nat) (marks:List Nat) (k:aX->Bool):Bool:=
 fD (β:=List Value->Tm->Bool) (fun _ T=>k ⟨T,marks,g⟩) (fun i _ ih vs T=>match vs with | v::vs=>qH v T i fun T=>ih vs T | []=>false) l vs ⟨.leaf,nt⟩
abbrev LpT:=Env->Option Nat->List Value->Nat->List Nat->St->(rD->List Value->Nat->List Nat->St->Bool)->Bool
section
variable (P:Program) (tb:oC)
noncomputable def Aw (a:Code) (ih:List Value->Nat->List Nat->St->Bool) (K:rD->List Value->Nat->List Nat->St->Bool):LP:=fun e A S=>match e with
 | .normal=>tR (rI tb a) A fun vs=>ih vs A.tmps.n A.marks S
 | e=>tR (outOf tb a e) A fun vs=>K e vs A.tmps.n A.marks S
noncomputable def MS (a:Code) (body:CdW) (E:Env) (r:Option Nat) (K:rD->List Value->Nat->List Nat->St->Bool):Nat->List Value->Nat->List Nat->St->Bool:=
 FG (β:=List Value->Nat->List Nat->St->Bool) (fun _ _ _ _=>false) (fun _ ih vs n marks S=>canonK (rI tb a) vs n P.globals.size marks fun A=>body.f E r A S (Aw tb a ih K))
noncomputable def aAJ (a:Code) (body:CdW):LpT:=fun E r vs n marks S K=>MS P tb a body E r K E.most vs n marks S
noncomputable def aC9 (a:Code) (K:LP):rD->List Value->Nat->List Nat->St->Bool:=fun e vs n marks S=>canonK (outOf tb a e) vs n P.globals.size marks fun A=>K e A S
noncomputable def aF2 (a:Code) (lp:LpT):CdW:=⟨fun E r A S K=>tR (rI tb a) A fun vs=>lp E r vs A.tmps.n A.marks S (aC9 P tb a K)⟩
noncomputable def Mu (l:List Nat) (b:CdW) (E:Env) (r:Option Nat) (K:LP) (vs:List Value) (n:Nat) (marks:List Nat) (S:St):Bool:=lX E.most false fun _=>canonK l vs n P.globals.size marks fun A=>b.f E r A S K
noncomputable def Fk (j:Option (List Nat)) (b:CdW) (E:Env) (r:Option Nat) (K:LP):LP:=fun e A S=>match e with
 | .normal=>match j with
  | none=>b.f E r A S K
  | some l=>tR l A fun vs=>Mu P l b E r K vs A.tmps.n A.marks S
 | e=>K e A S
noncomputable def Jg (id:Nat) (K:LP):LP:=fun e A S=>match e with
 | .exit i=>match Nat.beq i id with | true=>K .normal A S | false=>K (.exit i) A S
 | e=>K e A S
noncomputable def mB (lp:Code->LpT):Code->CdW
 | .skip=>⟨fun _ _ A S K=>K .normal A S⟩
 | .region _ ops draw=>⟨fun E _ A S K=>(Pv P ops draw).f E A S fun A S=>K .normal A S⟩
 | .seq a b=>⟨fun E r A S K=>(mB lp a).f E r A S (Fk P (xE tb b) (mB lp b) E r K)⟩
 | .cond c a b=>⟨fun E r A S K=>(sY c).f A fun v=>match v with | .bool v=>dW v ((mB lp a).f E r A S K) ((mB lp b).f E r A S K) | _=>false⟩
 | .block id a=>⟨fun E r A S K=>(mB lp a).f E r A S (Jg id K)⟩
 | .loop a=>aF2 P tb a (lp a)
 | .scope a=>mB lp a
 | .rangeFunc f ps as bo=>⟨fun E r A S K=>OI E r f ps as bo A S K⟩
 | .exit id=>⟨fun _ _ A S K=>K (.exit id) A S⟩
 | .label _=>⟨fun _ _ A S K=>K .normal A S⟩
 | .ret=>⟨fun _ _ A S K=>K .ret A S⟩
 | _=>⟨fun _ _ _ _ _=>false⟩
noncomputable def Py:Nat->Code->LpT
 | 0=>fun _ _ _ _ _ _ _ _=>false
 | n+1=>fun a=>aAJ P tb a (mB P tb (Py n) a)
end
end Go.Am
namespace Go.Am
open Go.RowKit Go.MapKept
section
variable{P:Program}{w0:World}{U:Rn}{S:St}{w:World}
theorem Jh{A:aX}:∀{l:List Nat} {k:List Value->Bool},tR l A k=true->∃vs,k vs=true/\vs.length=l.length/\∀(j i:Nat) (v:Value),l[j]? =some i->vs[j]? =some v->A.tmps.t.get i=some v:=by
 intro l;induction l with
 | nil=>intro k hk;exact⟨[],hk,rfl,fun j i v h=>by simp at h⟩
 | cons x l ih=>
  intro k hk;obtain⟨v,hv,hk⟩:=zO (show JE A.tmps x (fun v=>tR l A fun vs=>k (v::vs))=true from hk);obtain⟨vs,h1,h2,h3⟩:=ih hk;refine⟨v::vs,h1,by simp [h2],fun j i u hi hu=>?_⟩;cases j with
  | zero=>simp at hi hu;subst hi hu;exact hv
  | succ j=>simp at hi hu;exact h3 j i u hi hu
def Mw (U:Rn) (l:List Nat) (vs:List Value) (a:Act):Prop:=vs.length=l.length/\∀(j i:Nat) (v:Value),l[j]? =some i->vs[j]? =some v->∃v',a.tmps.toList[i]? =some v'/\VR U v v'
theorem Fl{A:aX}{a:Act} (hA:sL P U A a){l:List Nat}{k:List Value->Bool} (hk:tR l A k=true):∃vs,k vs=true/\Mw U l vs a:=by
 obtain⟨vs,h1,h2,h3⟩:=Jh hk;exact⟨vs,h1,h2,fun j i v hi hv=>hA.tmps.get (h3 j i v hi hv)⟩
theorem Ax{a:Act}{marks:List Nat}{k:aX->Bool}{nt:Nat}:∀{l:List Nat} {vs:List Value} {T:Tm},
 (fD (β:=List Value->Tm->Bool) (fun _ T=>k ⟨T,marks,P.globals.size⟩) (fun i _ ih vs T=>match vs with | v::vs=>qH v T i fun T=>ih vs T | []=>false) l vs T)=true->
 Mw U l vs a->T.n=nt->(∀i v,T.t.get i=some v->∃v',a.tmps.toList[i]? =some v'/\VR U v v')->∃T',k ⟨T',marks,P.globals.size⟩=true/\T'.n=nt/\∀i v,T'.t.get i=some v->∃v',a.tmps.toList[i]? =some v'/\VR U v v':=by
 intro l;induction l with
 | nil=>intro vs T hk _ hn hT;exact⟨T,hk,hn,hT⟩
 | cons x l ih=>
  intro vs T hk hv hn hT;rw [bG]at hk;cases vs with
  | nil=>have:=hv.1;simp at this
  | cons v vs=>
   obtain⟨hx,hk⟩:=vG hk;refine ih hk ⟨by have:=hv.1;simpa using this,fun j i u hi hu=>hv.2 (j+1) i u (by simpa using hi) (by simpa using hu)⟩ hn fun i u hu=>?_;have hu:(T.t.put x v).get i=some u:=hu;rw [get_put]at hu;split at hu
   ·rename_i e
    injection hu with hu;subst hu e;exact hv.2 0 i v rfl rfl
   ·exact hT i u hu
theorem Fm{a:Act}{marks:List Nat}{k:aX->Bool}{nt:Nat}{l:List Nat}{vs:List Value} (hk:canonK l vs nt P.globals.size marks k=true) (hv:Mw U l vs a) (hn:nt=a.tmps.size) (hm:ZV U marks a.defers) (hr:Rel P w0 U S w):
 ∃A,k A=true/\SR P w0 U A a S w/\A.marks=marks:=by
 obtain⟨T',h1,h2,h3⟩:=Ax hk hv rfl (fun i v h=>by cases h);exact⟨_,h1,⟨⟨⟨by rw [h2,hn];simp,h3⟩,rfl⟩,hr,hm⟩,rfl⟩
end
end Go.Am
namespace Go.Am
open Go.RowKit Go.MapKept
section
variable{E:Env}{w0:World}
structure AtX (P:Program) (w0:World) (U:Rn) (l:List Nat) (vs:List Value) (n:Nat) (marks:List Nat) (a:Act) (S:St) (w:World):Prop where
 vals:Mw U l vs a
 size:n=a.tmps.size
 marks:ZV U marks a.defers
 rel:Rel P w0 U S w
def aHg (P:Program) (w0:World) (tb:oC) (b:Code) (U:Rn) (w:World) (K:rD->List Value->Nat->List Nat->St->Bool) (e:Exit) (a':Act) (w':World):Prop:=
 ∃U' ae vs n marks S',e=exR ae/\K ae vs n marks S'=true/\AtX P w0 U' (outOf tb b ae) vs n marks a' S' w'/\Stp U w U' w'
def aF3 (E:Env) (w0:World) (tb:oC) (lp:Code->LpT):Prop:=∀(b:Code) {U:Rn} {vs:List Value} {n:Nat} {marks:List Nat} {a:Act} {S:St} {w:World} {K:rD->List Value->Nat->List Nat->St->Bool} {r ro:Option Nat} {Q:Exit->Act->World->Prop},
 lp b E r vs n marks S K=true->AtX E.P w0 U (rI tb b) vs n marks a S w->RoR U r ro->(∀e a' w',aHg E.P w0 tb b U w K e a' w'->Q e a' w')->(Code.loop b).wpIn (KH ro) 0 E.P Q a w
theorem AtX.canon{P:Program}{U:Rn}{l:List Nat}{vs:List Value}{n:Nat}{marks:List Nat}{a:Act}{S:St}{w:World}{k:aX->Bool} (h:AtX P w0 U l vs n marks a S w) (hk:canonK l vs n P.globals.size marks k=true):∃A,k A=true/\SR P w0 U A a S w:=by
 obtain⟨A,h1,h2,_⟩:=Fm hk h.vals h.size h.marks h.rel;exact⟨A,h1,h2⟩
theorem SR.at{P:Program}{U:Rn}{A:aX}{a:Act}{S:St}{w:World}{l:List Nat}{k:List Value->Bool} (h:SR P w0 U A a S w) (hk:tR l A k=true):∃vs,k vs=true/\AtX P w0 U l vs A.tmps.n A.marks a S w:=by
 obtain⟨vs,h1,h2⟩:=Fl h.act hk;exact⟨vs,h1,h2,by rw [h.act.tmps.1];simp,h.marks,h.rel⟩
theorem MT (hc:jU E.P w0 E.call) (hr:lJ E.P w0 E.round) (hm:E.P.follows .mixedOrders=true){tb:oC}{lp:Code->LpT} (hlp:aF3 E w0 tb lp):∀(c:Code) {U:Rn} {A:aX} {a:Act} {S:St} {w:World} {K:LP} {r ro:Option Nat} {Q:Exit->Act->World->Prop},
 (mB E.P tb lp c).f E r A S K=true->SR E.P w0 U A a S w->RoR U r ro->(∀e a' w',Arr E.P w0 U w K e a' w'->Q e a' w')->c.wpIn (KH ro) 0 E.P Q a w:=by
 intro c;induction c with
 | skip=>intro U A a S w K r ro Q hk hs hro hQ;exact wpIn_skip (hQ _ _ _ ⟨U,.normal,A,S,rfl,hk,hs,.refl U w⟩)
 | label l=>intro U A a S w K r ro Q hk hs hro hQ;exact wpIn_label (hQ _ _ _ ⟨U,.normal,A,S,rfl,hk,hs,.refl U w⟩)
 | ret=>intro U A a S w K r ro Q hk hs hro hQ;exact wpIn_ret (hQ _ _ _ ⟨U,.ret,A,S,rfl,hk,hs,.refl U w⟩)
 | exit id=>intro U A a S w K r ro Q hk hs hro hQ;exact wpIn_exit (hQ _ _ _ ⟨U,.exit id,A,S,rfl,hk,hs,.refl U w⟩)
 | goto l=>intro U A a S w K r ro Q hk hs hro hQ;cases hk
 | refuse l=>intro U A a S w K r ro Q hk hs hro hQ;cases hk
 | region id ops draw=>
  intro U A a S w K r ro Q hk hs hro hQ;have hk:(Pv E.P ops draw).f E A S (fun A S=>K .normal A S)=true:=hk;rw [Mt]at hk;exact MF hc hr (aC1 hc hr hm) (.region id ops draw) hk hs hro hQ
 | seq x y Tt ihy=>
  intro U A a S w K r ro Q hk hs hro hQ;have hk:(mB E.P tb lp x).f E r A S (Fk E.P (xE tb y) (mB E.P tb lp y) E r K)=true:=hk;refine wpIn_seq (Tt hk hs hro ?_)
  rintro e a' w' ⟨U',ae,A',S',rfl,h1,h2,h3⟩
  cases ae with
  | normal=>
   unfold Fk at h1;cases hj:xE tb y with
   | none=>
    rw [hj]at h1;exact ihy h1 h2 (hro.mono h3.ext) fun e a w h=>hQ e a w (h.trans h3)
   | some l=>
    rw [hj]at h1;have h1:tR l A' (fun vs=>Mu E.P l (mB E.P tb lp y) E r K vs A'.tmps.n A'.marks S')=true:=h1;obtain⟨vs,g1,g2⟩:=h2.at h1
    have g1:canonK l vs A'.tmps.n E.P.globals.size A'.marks (fun A=>(mB E.P tb lp y).f E r A S' K)=true:=by
     unfold Mu at g1;cases hm:E.most with
     | zero=>rw [hm]at g1;cases g1
     | succ m=>rw [hm]at g1;exact g1
    obtain⟨A2,g3,g4⟩:=g2.canon g1;exact ihy g3 g4 (hro.mono h3.ext) fun e a w h=>hQ e a w (h.trans h3)
  | exit id=>exact hQ _ _ _ ⟨U',.exit id,A',S',rfl,h1,h2,h3⟩
  | ret=>exact hQ _ _ _ ⟨U',.ret,A',S',rfl,h1,h2,h3⟩
 | cond c x y Tt ihy=>
  intro U A a S w K r ro Q hk hs hro hQ;have hk:(sY c).f A (fun v=>match v with | .bool b=>dW b ((mB E.P tb lp x).f E r A S K) ((mB E.P tb lp y).f E r A S K) | _=>false)=true:=hk;rw [iX]at hk;obtain⟨v,hk,hv⟩:=aM hs.rel hs.act hk;split at hk
  ·rename_i b
   have e:=hv.of_flat rfl;cases b with
   | true=>exact wpIn_cond_true e (Tt hk hs hro hQ)
   | false=>exact wpIn_cond_false e (ihy hk hs hro hQ)
  ·cases hk
 | block id x ih=>
  intro U A a S w K r ro Q hk hs hro hQ;have hk:(mB E.P tb lp x).f E r A S (Jg id K)=true:=hk;refine wpIn_block (ih hk hs hro ?_)
  rintro e a' w' ⟨U',ae,A',S',rfl,h1,h2,h3⟩
  cases ae with
  | normal=>exact hQ _ _ _ ⟨U',.normal,A',S',rfl,h1,h2,h3⟩
  | ret=>exact hQ _ _ _ ⟨U',.ret,A',S',rfl,h1,h2,h3⟩
  | exit i=>
   unfold Jg at h1;simp only at h1;show Exit.inBlock id Q (.exit i) a' w';split at h1
   ·rename_i hi
    have hi:=Nat.eq_of_beq_eq_true hi;subst hi;simp only [Exit.inBlock,if_true];exact hQ _ _ _ ⟨U',.normal,A',S',rfl,h1,h2,h3⟩
   ·rename_i hi
    have hi:=Nat.ne_of_beq_eq_false hi;simp only [Exit.inBlock,hi,if_false];exact hQ _ _ _ ⟨U',.exit i,A',S',rfl,h1,h2,h3⟩
 | scope x ih=>
  intro U A a S w K r ro Q hk hs hro hQ;refine TH (ih (show(mB E.P tb lp x).f E r A S K=true from hk) hs hro ?_)
  rintro e a' w' ⟨U',ae,A',S',rfl,h1,h2,h3⟩
  cases ae with
  | normal=>exact hQ _ _ _ ⟨U',.normal,A',S',rfl,h1,h2,h3⟩
  | exit id=>exact hQ _ _ _ ⟨U',.exit id,A',S',rfl,h1,h2,h3⟩
  | ret=>exact hQ _ _ _ ⟨U',.ret,A',S',rfl,h1,h2,h3⟩
 | rangeFunc f ps as bo _ _=>
  intro U A a S w K r ro Q hk hs hro hQ;exact XY hc hk hs hro hQ
 | loop x ih=>
  intro U A a S w K r ro Q hk hs hro hQ;have hk:tR (rI tb x) A (fun vs=>lp x E r vs A.tmps.n A.marks S (aC9 E.P tb x K))=true:=hk;obtain⟨vs,hk,hat⟩:=hs.at hk;refine hlp x hk hat hro ?_
  rintro e a' w' ⟨U',ae,vs',n',marks',S',rfl,h1,h2,h3⟩
  obtain⟨A',h1,h4⟩:=h2.canon h1;exact hQ _ _ _ ⟨U',ae,A',S',rfl,h1,h4,h3⟩
theorem Ji (hc:jU E.P w0 E.call) (hr:lJ E.P w0 E.round) (hm:E.P.follows .mixedOrders=true) (tb:oC):∀m,aF3 E w0 tb (Py E.P tb m):=by
 intro m;induction m with
 | zero=>intro b U vs n marks a S w K r ro Q hk;cases hk
 | succ m ih=>
  intro b U vs n marks a S w K r ro Q hk hat hro hQ
  let F:Nat->List Value->Nat->List Nat->St->Bool:=MS E.P tb b (mB E.P tb (Py E.P tb m) b) E r K
  have hk:F E.most vs n marks S=true:=hk
  let I:Nat->Act->World->Prop:=fun j a' w'=>∃U' vs n marks S',F j vs n marks S'=true/\AtX E.P w0 U' (rI tb b) vs n marks a' S' w'/\Stp U w U' w'
  refine wpIn_loop (I:=fun a w=>∃j,I j a w) (μ:=fun a w=>least fun j=>I j a w) ⟨E.most,U,vs,n,marks,S,hk,hat,.refl U w⟩ ?_
  rintro a1 w1 ⟨j0,hj0⟩
  obtain⟨hj,_⟩:=DR (p:=fun j=>I j a1 w1) hj0;generalize hgen:least (fun j=>I j a1 w1)=j at hj;obtain⟨U1,vs1,n1,aDa,S1,h1,h2,h3⟩:=hj;cases j with
  | zero=>cases h1
  | succ j=>
   have h1:canonK (rI tb b) vs1 n1 E.P.globals.size aDa (fun A=>(mB E.P tb (Py E.P tb m) b).f E r A S1 (Aw tb b (F j) K))=true:=h1;obtain⟨A1,h1,hs1⟩:=h2.canon h1;refine MT hc hr hm ih b h1 hs1 (hro.mono h3.ext) ?_
   rintro e a' w' ⟨U',ae,A',S',rfl,g1,g2,g3⟩
   cases ae with
   | normal=>
    obtain⟨vs',g1,hat'⟩:=g2.at g1;have hI:I j a' w':=⟨U',vs',_,_,S',g1,hat',h3.trans g3⟩;refine⟨⟨j,hI⟩,?_⟩;have:=(DR (p:=fun j=>I j a' w') hI).2;exact Nat.lt_succ_of_le this
   | exit id=>
    obtain⟨vs',g1,hat'⟩:=g2.at g1;exact hQ _ _ _ ⟨U',.exit id,vs',_,_,S',rfl,g1,hat',h3.trans g3⟩
   | ret=>
    obtain⟨vs',g1,hat'⟩:=g2.at g1;exact hQ _ _ _ ⟨U',.ret,vs',_,_,S',rfl,g1,hat',h3.trans g3⟩
end
section
variable (P:Program) (tb:FuncId->oC)
noncomputable def aHh (fn:Func) (K:VK):LP:=fun e A S=>match e with
 | .exit _=>false
 | _=>DK A.marks S fun S=>pJ P fn.results.toList A S fun vs=>match vs with | [v]=>K v S | vs=>K (.tuple ⟨vs⟩) S
def uR:Nat:=5
noncomputable def fnX (f:FuncId) (E:Env) (args:List Value) (S:St) (K:VK):Bool:=
 match P.funcs[f]? with
 | some fn=>match fn.body with
  | some c=>cF fn.ntmps fun n=>Tc n args fun ts=>(mB P (tb f) (Py P (tb f) uR) c).f E none ⟨ts,[],P.globals.size⟩ S (aHh P fn K)
  | none=>false
 | none=>false
def OX (n:Nat) (bo:Code):Nat:=match nH bo with | some i=>1000000+n*10000+i | none=>1000000
def YJ (n:Nat) (bo:Code):List Nat:=((tb (OX n bo)).loop 1000000).1
noncomputable def aAK (l:Nat) (K:VK):LP:=fun e _ S=>oV S.h l fun o=>match o with
 | .loop tm ps as bo _ _=>match e with
  | .normal=>pV S l (.loop tm ps as bo .ready none) fun S=>K (.bool true) S
  | .ret=>pV S l (.loop tm ps as bo .done (some .ret)) fun S=>K (.bool false) S
  | .exit id=>pV S l (.loop tm ps as bo .done (some (.exit id))) fun S=>K (.bool false) S
 | _=>false
noncomputable def Vb (n l:Nat) (bo:Code) (E:Env) (K:VK):LP:=fun e A S=>match e with
 | .normal=>oV S.h l fun o=>match o with
  | .loop tm ps as bo' .ready pe=>pV S l (.loop tm ps as bo' .busy pe) fun S=>(mB P (tb (OX n bo)) (Py P (tb (OX n bo)) uR) bo).f E (some l) A S (aAK l K)
  | _=>false
 | _=>false
noncomputable def TZ (E:Env) (l:Nat) (args:List Value) (S:St) (K:VK):Bool:=
 oV S.h l fun o=>match o with
  | .loop tmps ps as bo _ _=>tR (YJ tb tmps.n bo) ⟨tmps,[],P.globals.size⟩ fun vs=>canonK (YJ tb tmps.n bo) vs tmps.n P.globals.size [] fun A=>Ei ps args A.tmps fun ts=>
   (mB P (tb (OX tmps.n bo)) (Py P (tb (OX tmps.n bo)) uR) as).f E (some l) ⟨ts,[],P.globals.size⟩ S (Vb P tb tmps.n l bo E K)
  | _=>false
noncomputable def Pz (ov:FuncId->Option (List Value->St->VK->Bool)) (most:Nat) (n:Nat):Env:=
 FG (β:=Env) {P,ov,call:=fun _ _ _ _=>false,round:=fun _ _ _ _=>false,most}
  (fun _ E=>{P,ov,call:=fun f args S K=>match ov f with | some g=>g args S K | none=>fnX P tb f E args S K,round:=fun l args S K=>TZ P tb E l args S K,most}) n
inductive Dir where
 | l
 | r
 | d
variable (T:oC) (E:Env)
end
section
variable{P:Program}{tb:FuncId->oC}{w0:World}
theorem Qa{E:Env} (hP:E.P=P) (hc:jU P w0 E.call) (hr:lJ P w0 E.round) (hm:P.follows .mixedOrders=true) (DS:∀(f:FuncId) (fn:Func),P.funcs[f]? =some fn->fn.name≠ "runtime.NumGoroutine"):jU P w0 (fun f args S K=>fnX P tb f E args S K):=by
 subst hP;intro f args S K U w args' hk h ha;dsimp only at hk;unfold fnX at hk;split at hk
 ·rename_i fn hf
  split at hk
  ·rename_i c hb
   refine⟨fun w=>?_,?_⟩
   ·have hn:=DS f fn hf
    have hp:(program).run E.P w= .ok E.P w:=rfl;simp [callFunc,hp,hf,hn,hb]
   ·rw [bI]at hk
    obtain⟨ts,hk,hts⟩:=QF hk ha;refine callsIn_of_wp_marks hf hb trivial (MT hc hr hm (Ji hc hr hm (tb f) uR) c (ro:=none) (r:=none) hk ⟨⟨hts,rfl⟩,h,⟨rfl,by simp⟩⟩ (.inl ⟨rfl,rfl⟩) ?_)
    ·rintro e a' w' ⟨U',ae,A',S',rfl,g1,g2,g3⟩
     have fin:DK A'.marks S' (fun S=>pJ E.P fn.results.toList A' S fun vs=>match vs with | [v]=>K v S | vs=>K (.tuple ⟨vs⟩) S)=true->LeavesInM (KH none) 0 E.P fn a'.tmps (Back E.P w0 U w K) a'.defers .returning w':=by
      intro hk;refine MG hk g2.rel g2.marks fun S2 w2 hk hrel hstp=>?_;obtain⟨vs,vs',hk,hvs,hrun⟩:=GE hrel g2.act hk
      have hmap:(fn.results.mapM (fun | .tmp t=>pure (a'.tmps.getD t undef) | .cell x t=>do loadVar t (<-asAddr (a'.tmps.getD x undef)):ResultVar->Sem Value)).run E.P w2= .ok ⟨vs'⟩ w2:=by
       rw [<-Array.toArray_toList (xs:=fn.results),List.mapM_toArray];rw [Sem.run_map];exact(congrArg (fun r=>Result.andThen r _) hrun).trans rfl
      refine⟨(if h:(⟨vs'⟩:Array Value).size=1 then(⟨vs'⟩:Array Value)[0]else .tuple ⟨vs'⟩),?_,?_⟩
      ·unfold results
       rw [Sem.run_bind];exact(congrArg (fun r=>Result.andThen r _) hmap).trans rfl
      ·refine⟨_,rfl,?_⟩
       match vs,vs',hk,hvs with
       | [v],[v'],hk,hvs=>exact⟨U',v,S2,hk,hvs.head,hrel,g3.trans hstp⟩
       | [],[],hk,hvs=>exact⟨U',_,S2,hk,.oI (.nil _),hrel,g3.trans hstp⟩
       | a::b::l,a2::b2::l2,hk,hvs=>
        have:¬(⟨a2::b2::l2⟩:Array Value).size=1:=by simp
        rw [dif_neg this];exact⟨U',_,S2,hk,.oI hvs,hrel,g3.trans hstp⟩
       | [],_::_,_,hvs=>have:=hvs.1;simp at this
       | _::_,[],_,hvs=>have:=hvs.1;simp at this
       | [_],_::_::_,_,hvs=>have:=hvs.1;simp at this
       | _::_::_,[_],_,hvs=>have:=hvs.1;simp at this
     cases ae with
     | normal=>exact fin g1
     | ret=>exact fin g1
     | exit id=>cases g1
  ·cases hk
 ·cases hk
theorem Ay{E:Env} (hP:E.P=P) (hc:jU P w0 E.call) (hr:lJ P w0 E.round) (hm:P.follows .mixedOrders=true):lJ P w0 (TZ P tb E):=by
 subst hP;intro l args S K U w args' L hk h ha hL;unfold TZ at hk;obtain⟨o,ho,hk⟩:=lK hk;split at hk
 ·rename_i tmps params assign body st pe
  obtain⟨r,hb,hrr,hst,hpe,hps,has,hbo,Sw⟩:=qM h ho hL;have aHi:SR E.P w0 U ⟨tmps,[],E.P.globals.size⟩ {tmps:=r.tmps,defers:=[]} S w:=⟨⟨Sw,rfl⟩,h,⟨rfl,by simp⟩⟩;obtain⟨vs,hk,hat⟩:=aHi.at hk;obtain⟨A0,hk,hA0⟩:=hat.canon hk;obtain⟨ts,hk,hlen,hts⟩:=TJ hk ha hA0.act.tmps
  have Il:(Instr.yield L.b ⟨args'⟩).run E.P w= .ok (.round L.b r.fn ((r.params.zip ⟨args'⟩).foldl (fun tmps (x:Tmp×Value)=>tmps.setIfInBounds x.1 x.2) r.tmps) r.assign r.body) w:=by
   have hsz:(⟨args'⟩:Array Value).size=r.params.size:=by
    show args'.length=_;rw [hlen,<-hps];rfl
   have hne:¬(⟨args'⟩:Array Value).size≠r.params.size:=fun hh=>hh hsz;simp only [Instr.yield,Sem.run_bind,run_getLoop hrr,Result.andThen_ok,if_neg hne,Sem.run_pure]
  refine⟨_,_,_,_,Il,?_⟩;refine roundIn_of_wpIn trivial ?_;rw [has]
  have aCN:((r.params.zip ⟨args'⟩).foldl (fun tmps (x:Tmp×Value)=>tmps.setIfInBounds x.1 x.2) r.tmps)=(params.zip args').foldl (fun tmps (x:Tmp×Value)=>tmps.setIfInBounds x.1 x.2) r.tmps:=by
   rw [<-Array.foldl_toList]
   congr 1
   rw [Array.toList_zip,hps]
  rw [aCN];refine MT hc hr hm (Ji hc hr hm _ uR) assign (ro:=some L.b) hk ⟨⟨hts,rfl⟩,h,⟨rfl,by simp⟩⟩ (.inr ⟨l,L,rfl,hL,rfl⟩) ?_
  rintro e a' w' ⟨U1,ae,A1,S1,rfl,g1,g2,g3⟩
  unfold Vb at g1;cases ae with
  | exit id=>cases g1
  | ret=>cases g1
  | normal=>
   simp only at g1;obtain⟨o1,ho1,g1⟩:=lK g1;have hL1:=g3.ext _ _ hL;split at g1
   ·rename_i tm ps as bo pe1
    obtain⟨r1,hb1,Tw,hst1,aCO,hps1,aCP,aCQ,aCR⟩:=qM g2.rel ho1 hL1;obtain⟨q1,q2,q3⟩:=GD g2.rel ho1 hL1 hb1 Tw hps1 aCP aCQ aCR .busy pe1;rw [fS]at g1;refine⟨w'.putObj L.b (.loop {r1 with state:= .busy,pending:=pe1}),?_,?_⟩
    ·have q3':(setObj L.b (.loop {r1 with state:= .busy})).run E.P w'= .ok () (w'.putObj L.b (.loop {r1 with state:= .busy,pending:=pe1})):=by
      rw [<-aCO]at q3 ⊢;exact q3
     simp only [Instr.beginRound,Sem.run_bind,run_getLoop Tw,Result.andThen_ok,q3',hst1,Sem.run_pure]
    ·rw [hbo]
     refine MT hc hr hm (Ji hc hr hm _ uR) body (ro:=some L.b) g1 ⟨g2.act,q1,g2.marks⟩ (.inr ⟨l,L,rfl,hL1,rfl⟩) ?_
     rintro e2 a2 w2 ⟨U2,ae2,A2,S2,rfl,k1,k2,k3⟩
     unfold aAK at k1;obtain⟨o2,ho2,k1⟩:=lK k1;have hL2:=k3.ext _ _ hL1;split at k1
     ·rename_i tm2 ps2 as2 bo2 st2 pe2
      obtain⟨r2,hb2,Tx,hst2,aGW,aCS,aCT,aCU,aCV⟩:=qM k2.rel ho2 hL2
      have fin:∀(st':LoopState) (jump:Option Code) (bv:Bool),K (.bool bv) (S2.set l (.loop tm2 ps2 as2 bo2 st' jump))=true->bv=jump.isNone->st'=(if jump.isNone then .ready else .done)->
       ∃v w',(Instr.endRound L.b jump).run E.P w2= .ok v w'/\Back E.P w0 U w K (.returned v) w':=by
       intro st' jump bv hK hbv hst';obtain⟨z1,z2,z3⟩:=GD k2.rel ho2 hL2 hb2 Tx aCS aCT aCU aCV st' jump;refine⟨.bool bv,_,?_,.bool bv,rfl,U2,.bool bv,_,hK,.flat rfl,z1,((g3.trans q2).trans k3).trans z2⟩;rw [hst']at z3 ⊢;simp only [Instr.endRound,Sem.run_bind,run_getLoop Tx,Result.andThen_ok,z3,Sem.run_pure,hbv]
      cases ae2 with
      | normal=>
       simp only [fS]at k1;exact fin .ready none true k1 rfl rfl
      | ret=>
       simp only [fS]at k1;exact fin .done (some .ret) false k1 rfl rfl
      | exit id=>
       simp only [fS]at k1;exact fin .done (some (.exit id)) false k1 rfl rfl
     ·cases k1
   ·cases g1
 ·cases hk
theorem aDb (P:Program) (tb:FuncId->oC) (ov:FuncId->Option (List Value->St->VK->Bool)) (most n:Nat):(Pz P tb ov most n).P=P:=by cases n<;>rfl
theorem Jj{ov:FuncId->Option (List Value->St->VK->Bool)}{most:Nat} (hov:Ty P w0 ov) (DS:∀(f:FuncId) (fn:Func),P.funcs[f]? =some fn->fn.name≠ "runtime.NumGoroutine") (hm:P.follows .mixedOrders=true):∀n,jU P w0 (Pz P tb ov most n).call/\lJ P w0 (Pz P tb ov most n).round:=by
 intro n;induction n with
 | zero=>
  refine⟨?_,?_⟩
  ·intro f args S K U w args' hk;cases hk
  ·intro l args S K U w args' L hk;cases hk
 | succ n ih=>
  obtain⟨ih1,ih2⟩:=ih;have hP:=aDb P tb ov most n;refine⟨fun f args S K U w args' hk h ha=>?_,?_⟩
  ·have hk:(match(generalizing:=false) ov f with | some g=>g args S K | none=>fnX P tb f (Pz P tb ov most n) args S K)=true:=hk
   split at hk
   ·rename_i g hg
    exact hov f g hg f args S K U w args' (by simpa using hk) h ha
   ·exact Qa (tb:=tb) hP ih1 ih2 hm DS f args S K U w args' hk h ha
  ·exact Ay hP ih1 ih2 hm
end
end Go.Am
namespace Go.Am
noncomputable def dD (l:List (Nat×List Nat×List Nat×List Nat)) (i:Nat):List Nat×List Nat×List Nat:=fD (β:=List Nat×List Nat×List Nat) ([],[],[]) (fun p _ ih=>dW (Nat.beq p.1 i) p.2 ih) l
noncomputable def dE (l:List (Nat×List Nat)) (i:Nat):Option (List Nat):=fD (β:=Option (List Nat)) none (fun p _ ih=>dW (Nat.beq p.1 i) (some p.2) ih) l
noncomputable def aF4 (l:List (Nat×oC)) (f:FuncId):oC:=fD (β:=oC) ⟨fun _=>([],[],[]),fun _=>none⟩ (fun p _ ih=>dW (Nat.beq p.1 f) p.2 ih) l
section
variable{P:Program}
theorem Je (off b o:Nat) (K:Value->Bool):Uk off (.pointer (some ⟨b,o,none⟩)) K=K (.pointer (some ⟨b,o+off,none⟩)):=by
 show cF (o+off) (fun o=>K (.pointer (some ⟨b,o,none⟩)))=_;rw [bI]
theorem aC6 (i:Nat) (vs:List Value) (K:Value->Bool):Ur i (.tuple ⟨vs⟩) K=IQ vs i fun v=>K v:=rfl
theorem Au{α:Type}{l:List α}{i:Nat}{v:α} (h:l[i]? =some v) (k:α->Bool):IQ l i k=k v:=by
 induction l generalizing i with
 | nil=>cases h
 | cons a l ih=>
  cases i with
  | zero=>simp at h;subst h;rfl
  | succ i=>exact ih (by simpa using h)
theorem aAH (l:List UInt8) (K:Value->Bool):Fg (.string ⟨⟨l⟩⟩) K=K (.int .i64 (.ofNat l.length)):=iW _ _
theorem aC7 (k j:IntKind) (n:Int) (K:Value->Bool):Uq k (.int j n) K=K (.int k (kC k n)):=by
 show tH (kC k n) (fun n=>K (.int k n))=_;rw [nC]
theorem zV{S:St}{i:Nat}{vs:List Value}{e:TypeId}{c:CK} (h:S.obj i=some (.cells vs e c)) (k:List Value->TypeId->CK->Bool):tI S i k=k vs e c:=by
 unfold tI;rw [nF];have h:S.h.get i=some (.cells vs e c):=h;rw [h]
theorem Uw{S:St}{i o:Nat}{vs:List Value}{e:TypeId}{c:CK}{v:Value} (h:S.obj i=some (.cells vs e c)) (hv:vs[o]? =some v) (K:VK):rLd (.pointer (some ⟨i,o,none⟩)) S K=K v S:=by
 show tI S i (fun vs _ _=>IQ vs o fun v=>K v S)=_;rw [zV h,Au hv]
theorem EB{S:St}{i o n:Nat}{vs:List Value}{e:TypeId}{c:CK} (h:S.obj i=some (.cells vs e c)) (hn:o+n<=vs.length) (k:List Value->Bool):AZ S i o n k=k ((vs.drop o).take n):=by
 show tI S i (fun vs _ _=>AY o vs fun l=>FP n l k)=_;rw [zV h,tM,if_pos (by omega),vY,if_pos (by simp;omega)]
theorem Jf{S:St}{i o n:Nat}{vs:List Value}{e:TypeId}{c:CK} (h:S.obj i=some (.cells vs e c)) (hn:o+n<=vs.length) (K:VK):Uj n (.pointer (some ⟨i,o,none⟩)) S K=K (.agg ⟨(vs.drop o).take n⟩) S:=by
 show AZ S i o n (fun l=>K (.agg ⟨l⟩) S)=_;rw [EB h hn]
theorem Ux{cs:List Value}{off:Nat}{v:Value} (h:cs[off]? =some v) (K:Value->Bool):TV off (.agg ⟨cs⟩) K=K v:=by
 show IQ cs off K=_;rw [Au h]
theorem Pw{cs:List Value}{off n:Nat} (h:off+n<=cs.length) (K:Value->Bool):MQ off n (.agg ⟨cs⟩) K=K (.agg ⟨(cs.drop off).take n⟩):=by
 show AY off cs (fun l=>FP n l fun l=>K (.agg ⟨l⟩))=_;rw [tM,if_pos (by omega),vY,if_pos (by simp;omega)]
theorem Fj{v:Value} (h:oneCell v=true) (k:List Value->Bool):lZ v k=k [v]:=by cases v<;>first | rfl | cases h
theorem Uy (z:List Value) (t:TypeId) (S:St) (K:VK):OW z t S K=K (.pointer (some ⟨S.n,0,none⟩)) (S.new (.cells z t .exact)):=by
 unfold OW aAl
 have:∀(z:List Value) (k:List Value->Bool),fD (β:=(List Value->Bool)->Bool) (fun k=>k []) (fun a _ ih k=>ih fun t=>k (a::t)) z k=k z:=by
  intro z;induction z with
  | nil=>intro k;rfl
  | cons a z ih=>intro k;exact ih _
 rw [this,gD]
theorem aC8 (op:BinOp) (t:TypeId) (k:IntKind) (a b:Int) (K:Value->Bool) (h1:op≠ .shl) (h2:op≠ .shr):Up P op t (.int k a) (.int k b) K=DF op k a b K:=by
 rw [EA];have hk:vA k k=true:=by cases k<;>rfl
 cases op<;>first | exact absurd rfl h1 | exact absurd rfl h2 | (show(match vA k k with | true=>_ | false=>false)=_;rw [hk])
theorem aAI (b:Bool) (K:Value->Bool):unK .not (.bool b) K=K (.bool (!b)):=by
 show KC (!b) (fun b=>K (.bool b))=_;rw [lT]
theorem fM{S:St}{o:gF}{i:Nat} (h:i≠S.n):(S.new o).obj i=S.obj i:=by rw [DP,if_neg h]
theorem oY{S:St}{o:gF}:(S.new o).obj S.n=some o:=by rw [DP,if_pos rfl]
theorem Av{S:St}{i:Nat}{o:gF}:(S.set i o).obj i=some o:=by rw [vT,if_pos rfl]
theorem iV{S:St}{i j:Nat}{o:gF} (h:j≠i):(S.set i o).obj j=S.obj j:=by rw [vT,if_neg h]
theorem Px (j:IntKind) (z:Int):GF (.int j z) (.int j z)=true:=by
 have h1:vA j j=true:=by cases j<;>rfl
 show(vA j j&&RX z z)=true;rw [h1,qL];simp
def bytesV (l:List UInt8):List Value:=l.map fun b=> .int .u8 (.ofNat b.toNat)
structure Src (S:St) (size:Nat) (x:Value) (n:Nat) (new:List Value):Prop where
 len:∀k,FC x k=k n
 first:∀k,n≠0->DI S size n x k=k new
 one:∀v∈new,oneCell v=true
theorem Src.text (S:St) (l:List UInt8):Src S 1 (.string ⟨⟨l⟩⟩) l.length (bytesV l):=by
 refine⟨fun k=>iW _ _,fun k h=>?_,fun v hv=>?_⟩
 ·show FP l.length l (fun l=>Td l k)=_
  rw [vY,if_pos (Nat.le_refl _),List.take_length,ZO];rfl
 ·obtain⟨b,_,rfl⟩:=List.mem_map.1 hv
  rfl
theorem Src.row{S:St}{i o n c size:Nat}{vs:List Value}{e:TypeId}{ck:CK} (h:S.obj i=some (.cells vs e ck)) (hn:o+n*size<=vs.length) (h1:∀v∈(vs.drop o).take (n*size),oneCell v=true):Src S size (.slice (some ⟨i,o,none⟩) n c) n ((vs.drop o).take (n*size)):=by
 refine⟨fun k=>rfl,fun k hz=>?_,h1⟩;obtain⟨m,rfl⟩:=Nat.exists_eq_succ_of_ne_zero hz;show AZ S i o ((m+1)*size) k=_;rw [EB h hn]
theorem Uz{elem size bytes n:Nat}{S:St}{x:Value}{new:List Value} (hx:Src S size x n new) (hz:n≠0) (hb:n*(bytes+1)<=1099511627776) (K:VK):
 Iz P elem size bytes (.slice none 0 0) x S K=K (.slice (some ⟨S.n,0,some 0⟩) n n) (S.new (.cells new elem (.grown []))):=by
 obtain⟨m,rfl⟩:=Nat.exists_eq_succ_of_ne_zero hz;show FC x _=_;rw [hx.len];show DI S size (m+1) x _=_;rw [hx.first _ hz];simp only [bI,Nat.zero_add];rw [show Nat.ble ((m+1)*(bytes+1)) 1099511627776=true from Nat.ble_eq_true_of_le hb];have:Nat.ble (m+1) 0=false:=rfl;simp only [this];show FD elem [] new (m+1) none S K=_;unfold FD;rw [jJ];simp only [List.nil_append,gD]
theorem Va{elem size bytes n m j:Nat}{S:St}{x:Value}{new vs:List Value}{olds:List Nat} (hx:Src S size x n new) (hz:n≠0) (hb:(m+n)*(bytes+1)<=1099511627776)
 (hj:S.obj j=some (.cells vs elem (.grown olds))) (hv:vs.length=m*size) (hs:bQ P elem=some size) (K:VK):
 Iz P elem size bytes (.slice (some ⟨j,0,some 0⟩) m m) x S K=K (.slice (some ⟨S.n,0,some 0⟩) (m+n) (m+n)) ((S.set j (.cells vs elem .stale)).new (.cells (vs++new) elem (.grown (j::olds)))):=by
 obtain⟨p,rfl⟩:=Nat.exists_eq_succ_of_ne_zero hz;show FC x _=_;rw [hx.len];show DI S size (p+1) x _=_;rw [hx.first _ hz];simp only [bI];rw [show Nat.ble ((m+(p+1))*(bytes+1)) 1099511627776=true from Nat.ble_eq_true_of_le hb]
 have:Nat.ble (m+(p+1)) m=false:=by
  cases h:Nat.ble (m+(p+1)) m with
  | false=>rfl
  | true=>have:=Nat.le_of_ble_eq_true h;omega
 simp only [this];show tI S j _=_;rw [zV hj];simp only [iW,Nat.zero_add,hv,hs];have hone:allB oneCell new=true:=by rw [mQ];exact List.all_eq_true.2 hx.one
 simp only [show Nat.beq (m*size) (m*size)=true from Nat.beq_refl _,show Nat.beq size size=true from Nat.beq_refl _,show Nat.beq elem elem=true from Nat.beq_refl _,hone];rw [EB hj (by omega)];rw [List.drop_zero,<-hv,List.take_length];show FD elem vs new (m+(p+1)) (some (j,vs,elem,olds)) S K=_;unfold FD;rw [jJ];simp only [fS,gD];rfl
end
inductive Tag where
 | root (n:Nat)
 | sub (t:Tag) (k:Nat)
 | shift (t:Tag) (k:Nat)
inductive Dt where
 | int (k:IntKind) (z:Int)
 | bool (b:Bool)
 | str (l:List UInt8)
 | list (cs:List Dt) (n:Nat)
inductive V where
 | int (k:IntKind) (z:Int)
 | bool (b:Bool)
 | str (l:List UInt8)
 | list (O:Tag) (cs:List Dt) (n:Nat)
 | tS (O:Tag) (cs:List Dt) (o:Nat)
 | nil
 | acc (i n:Nat)
 | nV (i n o:Nat)
 | FN (i n o k c:Nat)
 | emp (i n:Nat)
 | own (i o n c:Nat)
 | ptr (i o:Nat)
 | pW
 | func (f:FuncId) (a c:List V)
 | yield (l:Nat)
 | meth (s:String) (v:V)
 | iface (t:TypeId) (v:V)
 | XB
 | GQ
 | rS (i:Nat)
 | XC
 | agg (cs:List V)
 | tuple (cs:List V)
def T (O:Tag):Dt->V
 | .int k z=> .int k z
 | .bool b=> .bool b
 | .str l=> .str l
 | .list cs n=> .list O cs n
def Tl (O:Tag):Nat->List Dt->List V
 | _,[]=>[]
 | o,d::l=>T (.sub O o) d::Tl O (o+1) l
inductive Ob where
 | row (vs:List V) (t:TypeId)
 | iD (vs:List V) (t:TypeId) (n:Nat)
 | map (es:List (V×V))
 | loop (ls:List Nat) (vs:List V) (n:Nat) (ps:List Tmp) (as bo:Code) (st:LoopState) (pe:Option Code)
def GR:Ob->Bool
 | .iD _ _ _=>true
 | _=>false
abbrev Hp:=Nat->Option Ob
def upd (S:Hp) (i:Nat) (o:Ob):Hp:=fun j=>if j=i then some o else S j
def dL (S' S:Hp):Prop:=∀i o,S' i=some o->S i=some o
abbrev KV:=V->Hp->Prop
def lL:V->Bool
 | .agg _=>false
 | .tuple _=>false
 | _=>true
def ofV:Value->Option V
 | .int k z=>some (.int k z)
 | .bool b=>some (.bool b)
 | .string ⟨⟨l⟩⟩=>some (.str l)
 | .pointer none=>some .pW
 | .slice none 0 0=>some .nil
 | .nilIface=>some .XB
 | .nilFunc=>some .GQ
 | .map none=>some .XC
 | _=>none
def KO:List Value->Option (List V)
 | []=>some []
 | v::l=>match ofV v with
  | some x=>match KO l with | some xs=>some (x::xs) | none=>none
  | none=>none
def yM:V:= .tuple []
noncomputable def MY{α:Type} (l:List α) (i:Nat) (k:α->Prop):Prop:=match l[i]? with | some a=>k a | none=>False
noncomputable def GS{α:Type} (l:List α) (o n:Nat) (k:List α->Prop):Prop:=o+n<=l.length/\k ((l.drop o).take n)
def fC (c:V) (a b:Prop):Prop:=match c with
 | .bool v=>match v with | true=>a | false=>b
 | _=>False
def aL (c a b:V) (K:V->Prop):Prop:=match c with
 | .bool v=>match v with | true=>K a | false=>K b
 | _=>False
noncomputable def aE (a:V) (S:Hp) (K:KV):Prop:=match a with
 | .ptr i o=>match S i with
  | some (.row vs _)=>MY vs o fun v=>K v S
  | _=>False
 | .tS O cs o=>MY cs o fun d=>K (T (.sub O o) d) S
 | .nV i n o=>match S i with
  | some (.iD vs _ m)=>m=n/\MY vs o fun v=>K v S
  | _=>False
 | _=>False
noncomputable def dK (n:Nat) (a:V) (S:Hp) (K:KV):Prop:=match a with
 | .ptr i o=>match S i with
  | some (.row vs _)=>GS vs o n fun l=>K (.agg l) S
  | _=>False
 | .tS O cs o=>GS cs o n fun l=>K (.agg (Tl O o l)) S
 | .nV i m o=>match S i with
  | some (.iD vs _ m')=>m'=m/\GS vs o n fun l=>K (.agg l) S
  | _=>False
 | _=>False
def EC (v:V) (k:List V->Prop):Prop:=match v with
 | .agg cs=>cs.all lL=true/\k cs
 | .tuple _=>False
 | v=>k [v]
noncomputable def jK (n:Nat) (a x:V) (S:Hp) (k:Hp->Prop):Prop:=match a with
 | .ptr i o=>match S i with
  | some (.row vs t)=>EC x fun cs=>cs.length=n/\o+n<=vs.length/\k (upd S i (.row (splice o cs vs) t))
  | _=>False
 | .nV i q o=>match S i with
  | some (.iD vs t m)=>m=q/\EC x fun cs=>cs.length=n/\o+n<=vs.length/\k (upd S i (.iD (splice o cs vs) t m))
  | _=>False
 | _=>False
def vNew (vs:List V) (t:TypeId) (S:Hp) (K:Nat->Hp->Prop):Prop:=∀i,S i=none->K i (upd S i (.row vs t))
def wJ (z:List Value) (k:List V->Prop):Prop:=match KO z with | some l=>k l | none=>False
def fE (z:List Value) (t:TypeId) (S:Hp) (K:KV):Prop:=wJ z fun l=>vNew l t S fun i S=>K (.ptr i 0) S
def nW (t:TypeId) (v:V) (S:Hp) (K:KV):Prop:=EC v fun cs=>vNew cs t S fun i S=>K (.ptr i 0) S
noncomputable def wK:List (Nat×Nat×V)->List V->(List V->Prop)->Prop
 | [],cs,k=>k cs
 | (o,n,v)::ps,cs,k=>EC v fun new=>new.length=n/\o+n<=cs.length/\wK ps (splice o new cs) k
noncomputable def gP (zero:List Value) (ps:List (Nat×Nat×V)) (K:V->Prop):Prop:=wJ zero fun z=>wK ps z fun cs=>K (.agg cs)
noncomputable def dP (el:TypeId) (n:Nat) (zero:List Value) (ps:List (Nat×Nat×V)) (S:Hp) (K:KV):Prop:=
 wJ zero fun z=>wK ps (List.replicate n z).flatten fun cs=>vNew cs el S fun i S=>K (.own i 0 n n) S
def aD (off:Nat) (x:V) (K:V->Prop):Prop:=match x with
 | .ptr i o=>K (.ptr i (o+off))
 | .tS O cs o=>K (.tS O cs (o+off))
 | .nV i n o=>K (.nV i n (o+off))
 | _=>False
noncomputable def Js (off:Nat) (x:V) (K:V->Prop):Prop:=match x with
 | .agg cs=>MY cs off K
 | _=>False
noncomputable def Bd (off n:Nat) (x:V) (K:V->Prop):Prop:=match x with
 | .agg cs=>GS cs off n fun l=>K (.agg l)
 | _=>False
def fQ (size:Nat) (x ix:V) (K:V->Prop):Prop:=match ix with
 | .int _ (.ofNat i)=>match x with
  | .list O cs n=>i<n/\K (.tS O cs (i*size))
  | .own b o n _=>i<n/\K (.ptr b (o+i*size))
  | .acc b n=>i<n/\K (.nV b n (i*size))
  | .FN b n o m _=>i<m/\K (.nV b n (o+i*size))
  | _=>False
 | _=>False
noncomputable def Jt (x ix:V) (K:V->Prop):Prop:=match ix with
 | .int _ (.ofNat i)=>match x with
  | .str l=>MY l i fun b=>K (.int .u8 (.ofNat b.toNat))
  | _=>False
 | _=>False
noncomputable def lU (i:Nat) (x:V) (K:V->Prop):Prop:=match x with
 | .tuple vs=>MY vs i K
 | _=>False
def aDj (k:IntKind) (x:V) (K:V->Prop):Prop:=match x with
 | .int _ n=>K (.int k (kC k n))
 | _=>False
def cY (x:V) (K:V->Prop):Prop:=match x with
 | .list _ _ n=>K (.int .i64 (.ofNat n))
 | .nil=>K (.int .i64 (.ofNat 0))
 | .acc _ n=>K (.int .i64 (.ofNat n))
 | .own _ _ n _=>K (.int .i64 (.ofNat n))
 | .FN _ _ _ k _=>K (.int .i64 (.ofNat k))
 | .emp _ _=>K (.int .i64 (.ofNat 0))
 | _=>False
def xN (x:V) (K:V->Prop):Prop:=match x with
 | .str l=>K (.int .i64 (.ofNat l.length))
 | _=>False
noncomputable def zY (size:Nat) (x:V) (S:Hp) (k:Nat->List V->Prop):Prop:=match x with
 | .nil=>k 0 []
 | .list O cs n=>n*size<=cs.length/\k n (Tl O 0 (cs.take (n*size)))
 | .own i o n _=>match S i with
  | some (.row vs _)=>GS vs o (n*size) fun l=>k n l
  | _=>False
 | .acc i n=>match S i with
  | some (.iD vs _ m)=>m=n/\vs.length=n*size/\k n vs
  | _=>False
 | .FN i n o q _=>match S i with
  | some (.iD vs _ m)=>m=n/\GS vs o (q*size) fun l=>k q l
  | _=>False
 | .emp _ _=>k 0 []
 | .str l=>size=1/\k l.length (l.map fun b=> .int .u8 (.ofNat b.toNat))
 | _=>False
def Nc (el:TypeId) (vs:List V) (n:Nat) (S:Hp) (K:KV):Prop:=∀i,S i=none->K (.acc i n) (upd S i (.iD vs el n))
noncomputable def oP (el:TypeId) (size bytes:Nat) (s x:V) (S:Hp) (K:KV):Prop:=zY size x S fun m new=>match m with
 | 0=>(match s with | .nil=>K s S | .acc _ _=>K s S | .own _ _ n c=>n<=c/\K s S | .list _ _ _=>K s S | _=>False)
 | m+1=>new.all lL=true/\match s with
  | .nil=>(m+1)*(bytes+1)<=1099511627776/\Nc el new (m+1) S K
  | .acc i n=>match S i with
   | some (.iD vs t n')=>n'=n/\t=el/\vs.length=n*size/\(n+(m+1))*(bytes+1)<=1099511627776/\K (.acc i (n+(m+1))) (upd S i (.iD (vs++new) el (n+(m+1))))
   | _=>False
  | .own i o n c=>match S i with
   | some (.row vs t)=>(n+(m+1))*(bytes+1)<=1099511627776/\o+n*size<=vs.length/\
    (n+(m+1)<=c->o+n*size+new.length<=vs.length/\K (.own i o (n+(m+1)) c) (upd S i (.row (splice (o+n*size) new vs) t)))/\
    (c<n+(m+1)->Nc el ((vs.drop o).take (n*size)++new) (n+(m+1)) S K)
   | _=>False
  | _=>False
def aQ (P:Program) (v:V) (K:V->Prop):Prop:=match v with
 | .ptr i o=>K (.ptr i o)
 | .tS O cs o=>K (.tS O cs o)
 | .nV i n o=>K (.nV i n o)
 | .func f a c=>K (.func f a c)
 | .iface t w=>K (.iface t w)
 | .meth s v=>match v with
  | .iface t w=>match zH P t s with
   | some _=>K (.meth s (.iface t w))
   | none=>False
  | _=>False
 | _=>False
abbrev aCv:=FuncId->List V->Hp->KV->Prop
def aGa (P:Program) (call:aCv) (r:V) (m:String) (args:List V) (S:Hp) (K:KV):Prop:=match r with
 | .iface t v=>match zH P t m with
  | some g=>call g (v::args) S K
  | none=>False
 | _=>False
def YL (l:Nat) (S:Hp) (k:Hp->Prop):Prop:=match S l with
 | some (.loop ls vs n ps as bo .ready pe)=>k (upd S l (.loop ls vs n ps as bo .busy pe))
 | _=>False
def JN (l:Nat) (st:LoopState) (pe:Option Code) (b:Bool) (S:Hp) (K:KV):Prop:=match S l with
 | some (.loop ls vs n ps as bo _ _)=>K (.bool b) (upd S l (.loop ls vs n ps as bo st pe))
 | _=>False
def Fw (l:Nat) (S:Hp) (k:Option Code->Hp->Prop):Prop:=match S l with
 | some (.loop ls vs n ps as bo st pe)=>match st with
  | .busy=>False
  | _=>k pe (upd S l (.loop ls vs n ps as bo .exhausted pe))
 | _=>False
def QT (pe:Option Code) (kn kr:Prop) (ke:Nat->Prop):Prop:=match pe with
 | none=>kn
 | some .ret=>kr
 | some (.exit id)=>ke id
 | _=>False
def SE (l:Nat) (S:Hp) (p:Prop):Prop:=match S l with
 | some (.loop _ _ _ _ _ _ _ _)=>p
 | _=>False
abbrev Nd (i id:Nat) (a b:Prop):Prop:=Bool.rec (motive:=fun _=>Prop) b a (Nat.beq i id)
def SF:V->Bool
 | .int _ _ | .bool _ | .str _ | .list _ _ _ | .nil | .ptr _ _ | .pW | .tS _ _ _ | .nV _ _ _ | .acc _ _ | .FN _ _ _ _ _ | .own _ _ _ _ | .rS _ | .XC | .XB | .GQ=>true
 | _=>false
def SG:V->Bool
 | .func _ a c=>a.all SF&&c.all SF
 | v=>SF v
def SH:V->Bool
 | .agg cs=>cs.all SG
 | v=>SG v
def UG:V->Bool
 | .tuple cs=>cs.all SH
 | v=>SH v
def aY (v u:V) (k:Prop):Prop:=v=u/\UG v=true/\k
def Vq (w:Bool) (v:V) (k:Bool->Prop):Prop:=match v with
 | .bool b=>match b,w with | true,true=>k true | false,false=>k true | _,_=>k false
 | .tuple []=>k false
 | _=>False
def aB (w:Bool) (v:V) (op:KV->Prop) (S:Hp) (k:KV):Prop:=Vq w v fun b=>match b with | true=>op k | false=>k yM S
def aGb (u:V) (k:Prop):Prop:=match u with | .tuple []=>k | _=>False
def bN (w:Bool) (v u:V) (op:Prop->Prop) (k:Prop):Prop:=Vq w v fun b=>match b with | true=>op k | false=>aGb u k
noncomputable def aC (most:Nat) (p:Prop):Prop:=Nat.rec (motive:=fun _=>Prop->Prop) (fun x=>x) (fun _ _ x=>x) most p
theorem bD (most:Nat) (p:Prop):aC most p=p:=by cases most<;>rfl
def GT (op:BinOp) (k:IntKind) (x y:Int) (K:V->Prop):Prop:=match op with
 | .add=>K (.int k (kC k (x+y)))
 | .sub=>K (.int k (kC k (x-y)))
 | .mul=>K (.int k (kC k (x*y)))
 | .quo=>y≠0/\K (.int k (kC k (x.tdiv y)))
 | .rem=>y≠0/\K (.int k (x.tmod y))
 | .and=>K (.int k (k.wrap (BitVec.ofInt k.bits x &&& BitVec.ofInt k.bits y).toNat))
 | .or=>K (.int k (k.wrap (BitVec.ofInt k.bits x ||| BitVec.ofInt k.bits y).toNat))
 | .xor=>K (.int k (k.wrap (BitVec.ofInt k.bits x ^^^ BitVec.ofInt k.bits y).toNat))
 | .andNot=>K (.int k (k.wrap (BitVec.ofInt k.bits x &&& ~~~ BitVec.ofInt k.bits y).toNat))
 | .eql=>K (.bool (decide (x=y)))
 | .neq=>K (.bool (!decide (x=y)))
 | .lss=>K (.bool (decide (x<y)))
 | .leq=>K (.bool (decide (x<=y)))
 | .gtr=>K (.bool (decide (y<x)))
 | .geq=>K (.bool (decide (y<=x)))
 | _=>False
def aDk (op:BinOp) (k:IntKind) (x y:Int) (K:V->Prop):Prop:=0<=y/\match op with
 | .shl=>K (.int k (kC k (x*2 ^ (min y.toNat k.bits))))
 | .shr=>K (.int k (x.fdiv (2 ^ (min y.toNat k.bits))))
 | _=>False
def Nf (op:BinOp) (a b:List UInt8) (K:V->Prop):Prop:=match op with
 | .add=>a.length+b.length<9223372036854775808/\K (.str (a++b))
 | .eql=>K (.bool (decide (a=b)))
 | .neq=>K (.bool (!decide (a=b)))
 | .lss=>K (.bool (Op.bytesLess a b))
 | _=>False
def Vr (op:BinOp) (a b:Bool) (K:V->Prop):Prop:=match op with
 | .eql=>K (.bool (decide (a=b)))
 | .neq=>K (.bool (!decide (a=b)))
 | _=>False
def sI:BinOp->Bool
 | .shl | .shr=>true
 | _=>false
def SI (P:Program) (t:TypeId):Bool:=match P.underlying t with | some .bool=>true | _=>false
inductive NK where
 | ptr
 | slice
 | map
 | func
 | iface
def Be:V->Option (NK×Bool)
 | .ptr _ _=>some (.ptr,false)
 | .tS _ _ _=>some (.ptr,false)
 | .nV _ _ _=>some (.ptr,false)
 | .pW=>some (.ptr,true)
 | .own _ _ _ _=>some (.slice,false)
 | .acc _ _=>some (.slice,false)
 | .FN _ _ _ _ _=>some (.slice,false)
 | .list _ (_::_) _=>some (.slice,false)
 | .nil=>some (.slice,true)
 | .rS _=>some (.map,false)
 | .XC=>some (.map,true)
 | .func _ _ _=>some (.func,false)
 | .meth _ _=>some (.func,false)
 | .GQ=>some (.func,true)
 | .iface _ _=>some (.iface,false)
 | .XB=>some (.iface,true)
 | _=>none
def YM (P:Program) (t:TypeId):Option NK:=match P.underlying t with
 | some (.pointer _)=>some .ptr
 | some (.slice _)=>some .slice
 | some (.map _ _)=>some .map
 | some (.func _ _ _)=>some .func
 | some (.interface _)=>some .iface
 | _=>none
def Ju (P:Program) (op:BinOp) (t:TypeId) (a b:V) (K:V->Prop):Prop:=match Be a with
 | some (k,x)=>match Be b with
  | some (l,y)=>k=l/\YM P t=some k/\(x=true\/y=true)/\(x=true->y=true->k≠ .iface)/\match op with
   | .eql=>K (.bool (x&&y))
   | .neq=>K (.bool (!(x&&y)))
   | _=>False
  | none=>False
 | none=>False
def aF (P:Program) (op:BinOp) (t:TypeId) (a b:V) (K:V->Prop):Prop:=match a with
 | .int j x=>match b with
  | .int k y=>match sI op with
   | true=>aDk op j x y K
   | false=>j=k/\GT op j x y K
  | _=>False
 | .str x=>match b with | .str y=>Nf op x y K | _=>False
 | .bool x=>match b with | .bool y=>SI P t=true/\Vr op x y K | _=>False
 | a=>Ju P op t a b K
def Bf (big:Bool) (a b:V) (K:V->Prop):Prop:=match a with
 | .int j x=>match b with
  | .int _ y=>K (.int j (match big with | true=>max x y | false=>min x y))
  | _=>False
 | _=>False
inductive CT where
 | int (k:IntKind)
 | str
 | bool
inductive Sz where
 | one (c:CT)
 | many (l:List CT)
def PE (P:Program) (t:TypeId):Option CT:=match P.underlying t with
 | some (.int k)=>some (.int k)
 | some .string=>some .str
 | some .bool=>some .bool
 | _=>none
def BG (P:Program):List Field->Option (List CT)
 | []=>some []
 | f::fs=>match PE P f.type with
  | some c=>match BG P fs with
   | some l=>some (c::l)
   | none=>none
  | none=>none
def keyS (P:Program) (t:TypeId):Option Sz:=match PE P t with
 | some c=>some (.one c)
 | none=>match DH P t with
  | some fs=>match BG P fs with
   | some l=>some (.many l)
   | none=>none
  | none=>none
def Ql:CT->V->Prop
 | .int k,.int j _=>j=k
 | .str,.str _=>True
 | .bool,.bool _=>True
 | _,_=>False
def JO:List CT->List V->Prop
 | [],[]=>True
 | c::l,v::vs=>Ql c v/\JO l vs
 | _,_=>False
def KP:Sz->V->Prop
 | .one c,v=>Ql c v
 | .many l,.agg cs=>JO l cs
 | _,_=>False
open Classical in
noncomputable def RP:List (V×V)->V->Option V
 | [],_=>none
 | e::es,a=>if a=e.1 then some e.2 else RP es a
open Classical in
noncomputable def PF:List (V×V)->V->V->List (V×V)
 | [],a,x=>[(a,x)]
 | e::es,a,x=>if a=e.1 then(a,x)::es else e::PF es a x
def Qm (P:Program) (op:BinOp) (t:TypeId) (a b:V) (K:V->Prop):Prop:=match keyS P t with
 | some (.many l)=>match a with
  | .agg x=>match b with
   | .agg y=>JO l x/\JO l y/\match op with
    | .eql=>(x=y->K (.bool true))/\(x≠y->K (.bool false))
    | .neq=>(x=y->K (.bool false))/\(x≠y->K (.bool true))
    | _=>False
   | _=>False
  | _=>False
 | _=>False
def Bg (S:Hp) (K:KV):Prop:=∀i,S i=none->K (.rS i) (upd S i (.map []))
def Bh (ok:Bool) (v:V) (is:Bool):V:=match ok with | true=> .tuple [v,.bool is] | false=>v
noncomputable def MZ (sh:Sz) (z:V) (ok:Bool) (m a:V) (S:Hp) (K:KV):Prop:=match m with
 | .rS i=>match S i with
  | some (.map es)=>KP sh a/\(∀e∈es,KP sh e.1)/\(∀v,RP es a=some v->K (Bh ok v true) S)/\(RP es a=none->K (Bh ok z false) S)
  | _=>False
 | _=>False
noncomputable def PG (sh:Sz) (m a x:V) (S:Hp) (k:Hp->Prop):Prop:=match m with
 | .rS i=>match S i with
  | some (.map es)=>KP sh a/\(∀e∈es,KP sh e.1)/\k (upd S i (.map (PF es a x)))
  | _=>False
 | _=>False
def aAU (d:Nat) (o:Option V) (k:Nat->Prop):Prop:=match o with
 | none=>k d
 | some (.int _ (.ofNat n))=>k n
 | _=>False
def QU (len cap:Nat) (lo hi mx:Option V) (k:Nat->Nat->Nat->Prop):Prop:=aAU cap mx fun m=>aAU len hi fun h=>aAU 0 lo fun l=>l<=h/\h<=m/\m<=cap/\k l h m
def aGc (x:V) (lo hi:Option V) (K:V->Prop):Prop:=match x with
 | .str s=>QU s.length s.length lo hi none fun l h _=>K (.str ((s.take h).drop l))
 | _=>False
def Jv (len size:Nat) (x:V) (lo hi mx:Option V) (K:V->Prop):Prop:=match x with
 | .ptr i o=>QU len len lo hi mx fun l h m=>K (.own i (if m=l then o else o+l*size) (h-l) (m-l))
 | _=>False
def uO (el size:Nat) (x:V) (lo hi mx:Option V) (S:Hp) (K:V->Prop):Prop:=match x with
 | .own i o n c=>QU n c lo hi mx fun l h m=>K (.own i (if m=l then o else o+l*size) (h-l) (m-l))
 | .nil=>QU 0 0 lo hi mx fun _ _ _=>K .nil
 | .acc i n=>match mx with
  | none=>match S i with
   | some (.iD _ t n')=>n'=n/\t=el/\QU n n lo hi none fun l h m=>(l<m->K (.FN i n (0+l*size) (h-l) (m-l)))/\(m=l->K (.emp i n))
   | _=>False
  | some _=>False
 | .FN i n o k c=>match mx with
  | none=>match S i with
   | some (.iD _ t n')=>n'=n/\t=el/\QU k c lo hi none fun l h m=>(l<m->K (.FN i n (o+l*size) (h-l) (m-l)))/\(m=l->K (.emp i n))
   | _=>False
  | some _=>False
 | _=>False
def ED (zero:List Value) (x:V) (S:Hp) (k:Hp->Prop):Prop:=match x with
 | .nil=>k S
 | .own i o n _=>match n with
  | 0=>k S
  | n+1=>wJ zero fun z=>match S i with
   | some (.row vs t)=>o+(List.replicate (n+1) z).flatten.length<=vs.length/\k (upd S i (.row (splice o (List.replicate (n+1) z).flatten vs) t))
   | _=>False
 | .acc i q=>match q with
  | 0=>k S
  | n+1=>wJ zero fun z=>match S i with
   | some (.iD vs t m)=>m=q/\(List.replicate (n+1) z).flatten.length<=vs.length/\k (upd S i (.iD (splice 0 (List.replicate (n+1) z).flatten vs) t m))
   | _=>False
 | .FN i q o n _=>match n with
  | 0=>k S
  | n+1=>wJ zero fun z=>match S i with
   | some (.iD vs t m)=>m=q/\o+(List.replicate (n+1) z).flatten.length<=vs.length/\k (upd S i (.iD (splice o (List.replicate (n+1) z).flatten vs) t m))
   | _=>False
 | _=>False
def vMk (el:TypeId) (bytes:Nat) (zero:List Value) (l c:V) (S:Hp) (K:KV):Prop:=match l with
 | .int _ (.ofNat l)=>match c with
  | .int _ (.ofNat c)=>l<=c/\bytes*c<=1099511627776/\c<=65536/\wJ zero fun z=>vNew (List.replicate c z).flatten el S fun i S=>K (.own i 0 l c) S
  | _=>False
 | _=>False
def GU (op:UnOp) (a:V) (K:V->Prop):Prop:=match op with
 | .not=>match a with | .bool b=>K (.bool (!b)) | _=>False
 | _=>False
section
variable{α β:Type}
noncomputable abbrev AA (n:Nat) (z:β) (s:Nat->β):β:=Nat.rec (motive:=fun _=>β) z (fun p _=>s p) n
noncomputable abbrev Vy (o:Option α) (z:β) (s:α->β):β:=Option.rec (motive:=fun _=>β) z s o
noncomputable abbrev Nh (z:β) (s:Nat->β->β) (n:Nat):β:=Nat.rec (motive:=fun _=>β) z s n
noncomputable abbrev CM (z:β) (s:α->List α->β->β) (l:List α):β:=List.rec (motive:=fun _=>β) z s l
noncomputable abbrev Vz (z:β) (s:Option α->Tr α->Tr α->β->β->β) (t:Tr α):β:=Tr.rec (motive:=fun _=>β) z s t
noncomputable abbrev aDl (t:Tr α) (z:β) (s:Option α->Tr α->Tr α->β):β:=Tr.rec (motive:=fun _=>β) z (fun v l r _ _=>s v l r) t
end
section
variable{α:Type}
noncomputable abbrev Qr (t:Tr α) (n:Nat) (k:α->Prop):Prop:=
 Vz (β:=Nat->Prop) (fun _=>False) (fun v _ _ gl gr n=>AA n (Vy v False k) fun p=>AA (Nat.mod p 2) (gl (Nat.div p 2)) fun _=>gr (Nat.div p 2)) t n
noncomputable abbrev Qs (x:α) (f:Nat):Tr α->Nat->(Tr α->Prop)->Prop:=
 Nh (β:=Tr α->Nat->(Tr α->Prop)->Prop) (fun t _ k=>k t)
  (fun _ ih t n k=>aDl t
   (AA n (k (.node (some x) .leaf .leaf)) fun p=>AA (Nat.mod p 2) (ih .leaf (Nat.div p 2) fun c=>k (.node none c .leaf)) fun _=>ih .leaf (Nat.div p 2) fun c=>k (.node none .leaf c))
   (fun v l r=>AA n (k (.node (some x) l r)) fun p=>AA (Nat.mod p 2) (ih l (Nat.div p 2) fun c=>k (.node v c r)) fun _=>ih r (Nat.div p 2) fun c=>k (.node v l c))) f
noncomputable abbrev Qt (t:Tr α) (n:Nat) (k:Prop):Prop:=
 Vz (β:=Nat->Prop) (fun _=>k) (fun v _ _ gl gr n=>AA n (Vy v k fun _=>False) fun p=>AA (Nat.mod p 2) (gl (Nat.div p 2)) fun _=>gr (Nat.div p 2)) t n
noncomputable abbrev Wa (t:Tr α) (n:Nat) (k:Tr α->Prop):Prop:=
 Vz (β:=Nat->(Tr α->Prop)->Prop) (fun _ k=>k .leaf) (fun v l r dl dr n k=>AA n (k (.node none l r)) fun p=>AA (Nat.mod p 2) (dl (Nat.div p 2) fun c=>k (.node v c r)) fun _=>dr (Nat.div p 2) fun c=>k (.node v l c)) t n k
end
structure Bn where
 t:Tr V
 n:Nat
structure VA where
 tmps:Bn
 g:Nat
noncomputable abbrev Bo (T:Bn) (i:Nat) (k:V->Prop):Prop:=Qr T.t i k
noncomputable abbrev JR (v:V) (T:Bn) (i:Nat) (k:Bn->Prop):Prop:=match T with
 | ⟨t,n⟩=>match Nat.blt i n with
  | true=>Qs v (Nat.succ i) t i fun t=>k ⟨t,n⟩
  | false=>False
noncomputable abbrev UJ (A:VA) (d:Tmp) (v:V) (k:VA->Prop):Prop:=match A with
 | ⟨T,g⟩=>JR v T d fun T=>k ⟨T,g⟩
noncomputable abbrev aGd (n:Nat) (args:List V) (k:Bn->Prop):Prop:=
 CM (β:=Nat->Bn->Prop) (fun _ T=>k T) (fun a _ ih i T=>JR a T i fun T=>ih (Nat.succ i) T) args 0 ⟨.leaf,n⟩
def ofC (v:Value):Option V:=match v with
 | .agg ⟨cs⟩=>match KO cs with | some l=>some (.agg l) | none=>none
 | v=>ofV v
structure EvV where
 f:VA->(V->Prop)->Prop
noncomputable def uL (x:Operand):EvV:=match x with
 | .tmp t=>⟨fun A k=>Bo A.tmps t k⟩
 | .const v=>match ofC v with | some d=>⟨fun _ k=>k d⟩ | none=>⟨fun _ _=>False⟩
 | .global _=>⟨fun _ _=>False⟩
 | .func f=>⟨fun _ k=>k (.func f [] [])⟩
structure aGe where
 f:VA->(List V->Prop)->Prop
noncomputable def Qu (xs:List Operand):aGe:=CM (β:=aGe) ⟨fun _ k=>k []⟩ (fun x _ ih=>⟨fun A k=>(uL x).f A fun v=>ih.f A fun vs=>k (v::vs)⟩) xs
structure PtV where
 f:VA->(List (Nat×Nat×V)->Prop)->Prop
noncomputable def PL (place:Nat->Option (Nat×Nat)) (ps:List (Nat×Operand)):PtV:=
 CM (β:=PtV) ⟨fun _ k=>k []⟩ (fun p _ ih=>match place p.1 with
  | some (off,size)=>⟨fun A k=>(uL p.2).f A fun v=>ih.f A fun l=>k ((off,size,v)::l)⟩
  | none=>⟨fun _ _=>False⟩) ps
inductive RQ (S' S:Hp):V->Dt->Prop
 | int {k:IntKind} {z:Int}:RQ S' S (.int k z) (.int k z)
 | bool {b:Bool}:RQ S' S (.bool b) (.bool b)
 | str {l:List UInt8}:RQ S' S (.str l) (.str l)
 | list {O:Tag} {cs:List Dt} {n:Nat}:RQ S' S (.list O cs n) (.list cs n)
 | nil:RQ S' S .nil (.list [] 0)
 | acc {i n:Nat} {vs:List V} {t:TypeId} {cs:List Dt} (h:S i=some (.iD vs t n)) (hn:S' i=none) (hl:vs.length=cs.length) (hr:∀(j:Nat) (v:V) (d:Dt),vs[j]? =some v->cs[j]? =some d->RQ S' S v d):RQ S' S (.acc i n) (.list cs n)
 | FN {i n o k c:Nat} {vs:List V} {t:TypeId} {cs:List Dt} (h:S i=some (.iD vs t n)) (hn:S' i=none) (hc:k<=c) (hl:o+cs.length<=vs.length) (hr:∀(j:Nat) (v:V) (d:Dt),vs[o+j]? =some v->cs[j]? =some d->RQ S' S v d):RQ S' S (.FN i n o k c) (.list cs k)
 | own {i o n c:Nat} {vs:List V} {t:TypeId} {cs:List Dt} (h:S i=some (.row vs t)) (hn:S' i=none) (hc:n<=c) (hl:o+cs.length<=vs.length) (hr:∀(j:Nat) (v:V) (d:Dt),vs[o+j]? =some v->cs[j]? =some d->RQ S' S v d):RQ S' S (.own i o n c) (.list cs n)
inductive Fz1 (S' S:Hp) (O:Tag):V->V->Prop
 | keep (v:V):Fz1 S' S O v v
 | dat {v:V} {d:Dt} (h:RQ S' S v d):Fz1 S' S O v (T O d)
def FzL (S' S:Hp) (O:Nat->Tag) (vs us:List V):Prop:=us.length=vs.length/\∀(j:Nat) (v u:V),vs[j]? =some v->us[j]? =some u->Fz1 S' S (O j) v u
inductive Fz (S' S:Hp) (O:Nat->Tag):V->V->Prop
 | one {v u:V} (h:Fz1 S' S (O 0) v u):Fz S' S O v u
 | agg {vs us:List V} (h:FzL S' S O vs us):Fz S' S O (.agg vs) (.agg us)
 | tup {vs us:List V} (h:FzL S' S O vs us):Fz S' S O (.tuple vs) (.tuple us)
def aS (v:V) (S:Hp) (K:KV):Prop:=∃(S':Hp) (u:(Nat->Tag)->V),dL S' S/\(∀O,Fz S' S O v (u O))/\∀O,K (u O) S'
def dX (S:Hp) (k:Hp->Prop):Prop:=∃S',dL S' S/\k S'
structure VE where
 C:aCv
 R:Nat->List V->Hp->KV->Prop
 most:Nat
def VE.call (E:VE) (c:FuncId) (args:List V) (S:Hp) (K:KV):Prop:=∃(S':Hp) (us:(Nat->Tag)->List V),dL S' S/\(∀O,FzL S' S O args (us O))/\∀O,E.C c (us O) S' K
def PK (E:VE) (f:V) (args:List V) (S:Hp) (K:KV):Prop:=match f with
 | .func g a c=>E.call g (a++args++c) S K
 | .yield l=>E.R l args S K
 | _=>False
def PJ (E:VE) (f:V) (ls:List Nat) (vs:List V) (n:Nat) (ps:List Tmp) (as bo:Code) (S:Hp) (k:Option Code->Hp->Prop):Prop:=match f with
 | .func g a c=>∀l,S l=none->E.call g (a++[.yield l]++c) (upd S l (.loop ls vs n ps as bo .ready none)) fun _ S=>Fw l S k
 | _=>False
structure OpV where
 f:VE->VA->Hp->KV->Prop
def wL:OpV:=⟨fun _ _ _ _=>False⟩
noncomputable def Wb (P:Program) (c:Call):OpV:=
 match c.callee with
 | .builtin .len=>match c.argTypes.toList,c.args.toList with
  | [t],[a]=>match isSlice P t,P.underlying t with
   | some _,_=>⟨fun _ A S K=>(uL a).f A fun v=>cY v fun v=>K v S⟩
   | none,some .string=>⟨fun _ A S K=>(uL a).f A fun v=>xN v fun v=>K v S⟩
   | _,_=>wL
  | _,_=>wL
 | .builtin .append=>match c.argTypes.toList,c.args.toList with
  | [sT,xT],[a,b]=>match isSlice P sT,WK (P.underlying xT)with
   | some el,true=>match P.info? el with
    | some info=>match info.size,info.zero with
     | n+1,some z=>match Nat.beq z.cells.size (n+1),Nat.beq ((bQ P el).getD 0) (n+1)with
      | true,true=>⟨fun _ A S K=>(uL a).f A fun a=>(uL b).f A fun b=>oP el (n+1) info.bytes a b S K⟩
      | _,_=>wL
     | _,_=>wL
    | none=>wL
   | _,_=>wL
  | _,_=>wL
 | .builtin .min=>match c.args.toList with
  | [a,b]=>⟨fun _ A S K=>(uL a).f A fun a=>(uL b).f A fun b=>Bf false a b fun v=>K v S⟩
  | _=>wL
 | .builtin .max=>match c.args.toList with
  | [a,b]=>⟨fun _ A S K=>(uL a).f A fun a=>(uL b).f A fun b=>Bf true a b fun v=>K v S⟩
  | _=>wL
 | .builtin .clear=>match c.argTypes.toList,c.args.toList with
  | [t],[a]=>match isSlice P t with
   | some el=>match bQ P el,qC P el with
    | some (m+1),some zero=>match Nat.beq zero.length (m+1),allB bH zero with
     | true,true=>⟨fun _ A S K=>(uL a).f A fun a=>ED zero a S fun S=>K yM S⟩
     | _,_=>wL
    | _,_=>wL
   | none=>wL
  | _,_=>wL
 | .builtin _=>wL
 | .value f=>⟨fun E A S K=>(Qu c.args.toList).f A fun args=>(uL f).f A fun f=>PK E f args S K⟩
 | .invoke r m=>⟨fun E A S K=>(Qu c.args.toList).f A fun args=>(uL r).f A fun v=>aGa P E.call v m args S K⟩
structure OvO where
 f:VA->(Option V->Prop)->Prop
noncomputable def evO (x:Option Operand):OvO:=match x with
 | none=>⟨fun _ k=>k none⟩
 | some x=>⟨fun A k=>(uL x).f A fun v=>k (some v)⟩
def aCw (mx hi:Option Operand):Bool:=match mx,hi with | some _,none=>false | _,_=>true
noncomputable def Jw (P:Program) (t:TypeId) (x:Operand) (lo hi mx:Option Operand):OpV:=
 match isSlice P t with
  | some el=>match bQ P el with
   | some size=>⟨fun _ A S K=>(uL x).f A fun x=>(evO lo).f A fun lo=>(evO hi).f A fun hi=>(evO mx).f A fun mx=>uO el size x lo hi mx S fun v=>K v S⟩
   | none=>wL
  | none=>match P.underlying t with
   | some .string=>match mx with
    | none=>⟨fun _ A S K=>(uL x).f A fun x=>(evO lo).f A fun lo=>(evO hi).f A fun hi=>aGc x lo hi fun v=>K v S⟩
    | some _=>wL
   | some (.array len el)=>match bQ P el with
    | some size=>⟨fun _ A S K=>(uL x).f A fun x=>(evO lo).f A fun lo=>(evO hi).f A fun hi=>(evO mx).f A fun mx=>Jv len size x lo hi mx fun v=>K v S⟩
    | none=>wL
   | _=>wL
noncomputable def KU (P:Program) (t:TypeId) (l c:Operand):OpV:=
 match isSlice P t with
  | some el=>match P.info? el,qC P el with
   | some info,some zero=>match Nat.beq zero.length info.size,info.size,allB bH zero with
    | true,_+1,true=>⟨fun _ A S K=>(uL l).f A fun l=>(uL c).f A fun c=>vMk el info.bytes zero l c S K⟩
    | _,_,_=>wL
   | _,_=>wL
  | none=>wL
noncomputable def Bp (P:Program) (t:TypeId) (x ix:Operand) (ok:Bool):OpV:=match FH P t with
 | some (kt,et)=>match keyS P kt,zeroV P et with
  | some sh,some z=>match ofC z with
   | some z=>⟨fun _ A S K=>(uL x).f A fun x=>(uL ix).f A fun ix=>MZ sh z ok x ix S K⟩
   | none=>wL
  | _,_=>wL
 | none=>wL
noncomputable def Bq (P:Program) (t:TypeId) (m a x:Operand):OpV:=match FH P t with
 | some (kt,_)=>match keyS P kt with
  | some sh=>⟨fun _ A S K=>(uL m).f A fun m=>(uL a).f A fun a=>(uL x).f A fun x=>PG sh m a x S fun S=>K yM S⟩
  | none=>wL
 | none=>wL
def Ge (P:Program) (t:TypeId):Bool:=match P.underlying t with | some (.interface _)=>false | some _=>true | none=>false
noncomputable def Qv (P:Program) (o:Oper):OpV:=
 match o.op with
 | .move x=>⟨fun _ A S K=>(uL x).f A fun v=>K v S⟩
 | .assign x=>⟨fun _ A S K=>(uL x).f A fun v=>K v S⟩
 | .pick c a b=>⟨fun E A S K=>(uL c).f A fun c=>(uL a).f A fun a=>(uL b).f A fun b=>aC E.most (aL c a b fun v=>K v S)⟩
 | .alloc t=>match qC P t with
  | some z=>match allB bH z with
   | true=>⟨fun _ _ S K=>fE z t S K⟩
   | false=>wL
  | none=>wL
 | .box t x=>⟨fun _ A S K=>(uL x).f A fun v=>nW t v S K⟩
 | .build t ps=>match qC P t,P.underlying t with
  | some zero,some (.struct fields)=>match placesOf P fields.toList with
   | some pl=>match allB bH zero,ps.toList.all fun p=>(pl[p.1]?).isSome with
    | true,true=>⟨fun _ A S K=>(PL (pl[·]?) ps.toList).f A fun l=>gP zero l fun v=>K v S⟩
    | _,_=>wL
   | none=>wL
  | some zero,some (.array _ elem)=>match bQ P elem with
   | some size=>match allB bH zero with
    | true=>⟨fun _ A S K=>(PL (fun i=>some (i*size,size)) ps.toList).f A fun l=>gP zero l fun v=>K v S⟩
    | false=>wL
   | none=>wL
  | _,_=>wL
 | .buildSlice t len ps=>match isSlice P t with
  | some elem=>match bQ P elem,qC P elem with
   | some (size+1),some zero=>match Nat.ble (len*(size+1)) 16777216,Nat.beq zero.length (size+1)with
    | true,true=>match allB bH zero with
     | true=>⟨fun _ A S K=>(PL (fun i=>some (i*(size+1),size+1)) ps.toList).f A fun l=>dP elem len zero l S K⟩
     | false=>wL
    | _,_=>wL
   | _,_=>wL
  | none=>wL
 | .load t a=>match qI P t,bQ P t with
  | some false,_=>⟨fun _ A S K=>(uL a).f A fun a=>aE a S K⟩
  | some true,some (n+1)=>⟨fun _ A S K=>(uL a).f A fun a=>dK (n+1) a S K⟩
  | _,_=>wL
 | .store t a x=>match bQ P t with
  | some n=>⟨fun _ A S K=>(uL a).f A fun a=>(uL x).f A fun x=>jK n a x S fun S=>K yM S⟩
  | none=>wL
 | .nilCheck x=>⟨fun _ A S K=>(uL x).f A fun v=>aQ P v fun v=>K v S⟩
 | .binOp op t x y _=>match qI P t with
  | some true=>⟨fun _ A S K=>(uL x).f A fun a=>(uL y).f A fun b=>Qm P op t a b fun v=>K v S⟩
  | _=>⟨fun _ A S K=>(uL x).f A fun a=>(uL y).f A fun b=>aF P op t a b fun v=>K v S⟩
 | .unOp op _ x=>⟨fun _ A S K=>(uL x).f A fun a=>GU op a fun v=>K v S⟩
 | .convert s d x=>match P.underlying s,P.underlying d with
  | some (.int _),some (.int k)=>⟨fun _ A S K=>(uL x).f A fun a=>aDj k a fun v=>K v S⟩
  | _,_=>wL
 | .makeInterface t x=>match Ge P t with
  | true=>⟨fun _ A S K=>(uL x).f A fun v=>K (.iface t v) S⟩
  | false=>wL
 | .makeFunc fn first cap=>match fn with
  | .func f=>⟨fun _ A S K=>(Qu first.toList).f A fun a=>(Qu cap.toList).f A fun b=>K (.func f a b) S⟩
  | .method s=>match first.toList,cap.toList with
   | [x],[]=>⟨fun _ A S K=>(uL x).f A fun v=>K (.meth s v) S⟩
   | _,_=>wL
  | _=>wL
 | .fieldAddr s x f=>match tJ P s f with
  | some fd=>match bQ P fd.type with
   | some (_+1)=>⟨fun _ A S K=>(uL x).f A fun x=>aD fd.offset x fun v=>K v S⟩
   | _=>wL
  | none=>wL
 | .field t x f=>match tJ P t f with
  | some fd=>match qI P fd.type,bQ P fd.type with
   | some false,_=>⟨fun _ A S K=>(uL x).f A fun x=>Js fd.offset x fun v=>K v S⟩
   | some true,some n=>⟨fun _ A S K=>(uL x).f A fun x=>Bd fd.offset n x fun v=>K v S⟩
   | _,_=>wL
  | none=>wL
 | .indexAddr t x ix=>match isSlice P t with
  | some el=>match bQ P el with
   | some n=>⟨fun _ A S K=>(uL x).f A fun x=>(uL ix).f A fun ix=>fQ n x ix fun v=>K v S⟩
   | none=>wL
  | none=>wL
 | .index t x ix=>match P.underlying t with
  | some .string=>⟨fun _ A S K=>(uL x).f A fun x=>(uL ix).f A fun ix=>Jt x ix fun v=>K v S⟩
  | _=>wL
 | .slice t x lo hi mx=>match aCw mx hi with
  | true=>Jw P t x lo hi mx
  | false=>wL
 | .makeSlice t l c=>KU P t l c
 | .makeMap _ none=>⟨fun _ _ S K=>Bg S K⟩
 | .lookup t x ix ok=>Bp P t x ix ok
 | .mapUpdate t m k x=>Bq P t m k x
 | .insert t m k x=>Bq P t m k x
 | .extract t i=>⟨fun _ A S K=>(uL t).f A fun v=>lU i v fun v=>K v S⟩
 | .call c=>Wb P c
 | _=>wL
abbrev KSV:=VA->Hp->Prop
structure StV where
 f:VE->VA->Hp->KSV->Prop
structure ChV where
 f:VE->VA->Hp->Prop->Prop
noncomputable def aCx (P:Program) (o:Oper):StV:=
 match o.dst with
 | some d=>⟨fun E A S k=>(Qv P o).f E A S fun v S=>UJ A d v fun A=>k A S⟩
 | none=>⟨fun E A S k=>(Qv P o).f E A S fun _ S=>k A S⟩
noncomputable def doV (P:Program) (ops:Array Oper) (o:Oper):StV:=
 match o.guard with
 | none=>aCx P o
 | some (j,w)=>match ops[j]? with
  | some o'=>match o'.dst with
   | some g=>match o.dst with
    | some d=>⟨fun E A S k=>Bo A.tmps g fun b=>aC E.most (aB w b (fun k=>(Qv P o).f E A S k) S fun v S=>UJ A d v fun A=>k A S)⟩
    | none=>⟨fun E A S k=>Bo A.tmps g fun b=>aC E.most (aB w b (fun k=>(Qv P o).f E A S k) S fun _ S=>k A S)⟩
   | none=>⟨fun _ _ _ _=>False⟩
  | none=>⟨fun _ _ _ _=>False⟩
noncomputable def opsV (P:Program) (ops:Array Oper) (l:List Oper):StV:=
 CM (β:=StV) ⟨fun _ A S k=>k A S⟩ (fun o _ ih=>⟨fun E A S k=>(doV P ops o).f E A S fun A S=>ih.f E A S k⟩) l
noncomputable def RR (P:Program) (ops:Array Oper) (l:List Nat):ChV:=
 CM (β:=ChV) ⟨fun _ _ _ k=>k⟩ (fun i _ ih=>match ops[i]? with
  | some o=>match o.dst with
   | some d=>match o.guard with
    | none=>⟨fun E A S k=>Bo A.tmps d fun u=>(Qv P o).f E A S fun v _=>aY v u (ih.f E A S k)⟩
    | some (j,w)=>match ops[j]? with
     | some o'=>match o'.dst with
      | some g=>⟨fun E A S k=>Bo A.tmps d fun u=>Bo A.tmps g fun b=>aC E.most (bN w b u (fun k=>(Qv P o).f E A S fun v _=>aY v u k) (ih.f E A S k))⟩
      | none=>⟨fun _ _ _ _=>False⟩
     | none=>⟨fun _ _ _ _=>False⟩
   | none=>⟨fun _ _ _ _=>False⟩
  | none=>⟨fun _ _ _ _=>False⟩) l
noncomputable def Gf (P:Program) (ops:Array Oper) (i:Nat) (o:Oper):OpV:=match dZ P ops i with
 | none=>Qv P o
 | some _=>wL
noncomputable def JS (P:Program) (ops:Array Oper) (l:List Nat):StV:=
 CM (β:=StV) ⟨fun _ A S k=>k A S⟩ (fun i _ ih=>match ops[i]? with
  | some o=>match o.dst with
   | some d=>⟨fun E A S k=>(Gf P ops i o).f E A S fun v S=>UJ A d v fun A=>ih.f E A S k⟩
   | none=>⟨fun E A S k=>(Gf P ops i o).f E A S fun _ S=>ih.f E A S k⟩
  | none=>⟨fun _ _ _ _=>False⟩) l
noncomputable abbrev absP (A:VA) (o:Oper) (k:Prop):Prop:=match o.dst with
 | some d=>Qt A.tmps.t d k
 | none=>False
noncomputable def Jy (P:Program) (ops:Array Oper) (l:List (Nat×List Nat)):ChV:=
 CM (β:=ChV) ⟨fun _ _ _ k=>k⟩ (fun p _ ih=>match ops[p.1]? with
  | some o=>⟨fun E A S k=>absP A o (((JS P ops p.2).f E A S fun A S=>(Gf P ops p.1 o).f E A S fun _ _=>True)/\ih.f E A S k)⟩
  | none=>⟨fun _ _ _ _=>False⟩) l
noncomputable def EJ (P:Program) (ops:Array Oper) (l:List JM):StV:=
 CM (β:=StV) ⟨fun _ _ _ _=>False⟩ (fun s _ ih=>match s with
  | .take i=>match ops[i]? with
   | some o=>⟨fun E A S k=>(doV P ops o).f E A S fun A S=>ih.f E A S k⟩
   | none=>⟨fun _ _ _ _=>False⟩
  | .req chk pend D r RK=>match ops[r]? with
   | some o=>⟨fun E A S k=>(RR P ops chk).f E A S ((Jy P ops pend).f E A S ((JS P ops D).f E A S fun A S=>(doV P ops o).f E A S fun A S=>(RR P ops RK).f E A S (ih.f E A S k)))⟩
   | none=>⟨fun _ _ _ _=>False⟩
  | .fin chk pend D=>⟨fun E A S k=>(RR P ops chk).f E A S ((Jy P ops pend).f E A S ((JS P ops D).f E A S k))⟩) l
noncomputable abbrev Ni (ops:Array Oper) (l:List Nat) (A:VA) (k:VA->Prop):Prop:=
 CM (β:=VA->Prop) k (fun i _ ih A=>match ops[i]? with
  | some o=>match o.dst with
   | some d=>match A with | ⟨⟨t,n⟩,g⟩=>Wa t d fun t=>ih ⟨⟨t,n⟩,g⟩
   | none=>False
  | none=>False) l A
noncomputable def aAY (P:Program) (ops:Array Oper) (draw:Bool):StV:=
 match draw with
 | true=>match YG P ops with
  | some l=>match QK l with
   | []=>EJ P ops l
   | ls=>⟨fun E A S k=>Ni ops ls A fun A=>(EJ P ops l).f E A S k⟩
  | none=>⟨fun _ _ _ _=>False⟩
 | false=>opsV P ops ops.toList
abbrev CV:=rD->VA->Hp->Prop
structure CdV where
 f:VE->VA->Hp->CV->Prop
noncomputable abbrev CN (l:List Nat) (A:VA) (k:List V->Prop):Prop:=
 CM (β:=(List V->Prop)->Prop) (fun k=>k []) (fun i _ ih k=>Bo A.tmps i fun v=>ih fun vs=>k (v::vs)) l k
noncomputable abbrev EE (l:List Nat) (vs:List V) (nt g:Nat) (k:VA->Prop):Prop:=
 CM (β:=List V->Bn->Prop) (fun _ T=>k ⟨T,g⟩) (fun i _ ih vs T=>match vs with | v::vs=>JR v T i fun T=>ih vs T | []=>False) l vs ⟨.leaf,nt⟩
abbrev LpV:=VE->List V->Nat->Hp->(rD->List V->Nat->Hp->Prop)->Prop
section
variable (P:Program) (tb:oC) (r:Option Nat)
noncomputable abbrev Br (a:Code) (ih:List V->Nat->Hp->Prop) (K:rD->List V->Nat->Hp->Prop):CV:=fun e A S=>match e with
 | .normal=>CN (rI tb a) A fun vs=>ih vs A.tmps.n S
 | e=>CN (outOf tb a e) A fun vs=>K e vs A.tmps.n S
noncomputable def HZ (a:Code) (body:CdV) (E:VE) (K:rD->List V->Nat->Hp->Prop):Nat->List V->Nat->Hp->Prop:=
 Nh (β:=List V->Nat->Hp->Prop) (fun _ _ _=>False) (fun _ ih vs n S=>dX S fun S=>EE (rI tb a) vs n P.globals.size fun A=>body.f E A S (Br tb a ih K))
noncomputable def Wc (a:Code) (body:CdV):LpV:=fun E vs n S K=>HZ P tb a body E K E.most vs n S
noncomputable abbrev Qw (a:Code) (K:CV):rD->List V->Nat->Hp->Prop:=fun e vs n S=>EE (outOf tb a e) vs n P.globals.size fun A=>K e A S
noncomputable def aGf (a:Code) (lp:LpV):CdV:=⟨fun E A S K=>CN (rI tb a) A fun vs=>lp E vs A.tmps.n S (Qw P tb a K)⟩
noncomputable def Wd (l:List Nat) (b:CdV) (E:VE) (K:CV) (vs:List V) (n:Nat) (S:Hp):Prop:=AA E.most False fun _=>dX S fun S=>EE l vs n P.globals.size fun A=>b.f E A S K
noncomputable abbrev Nj (j:Option (List Nat)) (b:CdV) (E:VE) (K:CV):CV:=fun e A S=>match e with
 | .normal=>match j with
  | none=>b.f E A S K
  | some l=>CN l A fun vs=>Wd P l b E K vs A.tmps.n S
 | e=>K e A S
noncomputable abbrev Jz (id:Nat) (K:CV):CV:=fun e A S=>match e with
 | .exit i=>Nd i id (K .normal A S) (K (.exit i) A S)
 | e=>K e A S
def Bt (a:Code):List Nat:=match nH a with | some i=>(tb.loop (1000000+i)).1 | none=>[]
def rOk (r:Option Nat) (S:Hp) (p:Prop):Prop:=match r with | none=>p | some l=>SE l S p
noncomputable def Bu (f:Operand) (ps:Array Tmp) (as bo:Code):CdV:=⟨fun E A S K=>(uL f).f A fun f=>CN (Bt tb bo) A fun vs=>rOk r S (PJ E f (Bt tb bo) vs A.tmps.n ps.toList as bo S fun pe S=>QT pe (K .normal A S) (K .ret A S) fun id=>K (.exit id) A S)⟩
noncomputable def oD (lp:Code->LpV):Code->CdV
 | .skip=>⟨fun _ A S K=>K .normal A S⟩
 | .region _ ops draw=>⟨fun E A S K=>(aAY P ops draw).f E A S fun A S=>K .normal A S⟩
 | .seq a b=>⟨fun E A S K=>(oD lp a).f E A S (Nj P (xE tb b) (oD lp b) E K)⟩
 | .cond c a b=>⟨fun E A S K=>(uL c).f A fun v=>fC v ((oD lp a).f E A S K) ((oD lp b).f E A S K)⟩
 | .block id a=>⟨fun E A S K=>(oD lp a).f E A S (Jz id K)⟩
 | .loop a=>aGf P tb a (lp a)
 | .scope a=>oD lp a
 | .rangeFunc f ps as bo=>Bu tb r f ps as bo
 | .exit id=>⟨fun _ A S K=>K (.exit id) A S⟩
 | .label _=>⟨fun _ A S K=>K .normal A S⟩
 | .ret=>⟨fun _ A S K=>K .ret A S⟩
 | _=>⟨fun _ _ _ _=>False⟩
noncomputable def IS:Nat->Code->LpV
 | 0=>fun _ _ _ _ _ _=>False
 | n+1=>fun a=>Wc P tb a (oD P tb r (IS n) a)
end
section
variable (P:Program) (tb:FuncId->oC)
noncomputable abbrev AB (rs:List ResultVar) (A:VA) (S:Hp) (k:List V->Prop):Prop:=
 CM (β:=(List V->Prop)->Prop) (fun k=>k []) (fun x _ ih k=>match x with
  | .tmp t=>Bo A.tmps t fun v=>ih fun vs=>k (v::vs)
  | .cell a t=>match qI P t,bQ P t with
   | some false,_=>Bo A.tmps a fun a=>aE a S fun v _=>ih fun vs=>k (v::vs)
   | some true,some (n+1)=>Bo A.tmps a fun a=>dK (n+1) a S fun v _=>ih fun vs=>k (v::vs)
   | _,_=>False) rs k
noncomputable abbrev We (fn:Func) (K:KV):CV:=fun e A S=>match e with
 | .exit _=>False
 | _=>AB P fn.results.toList A S fun vs=>match vs with | [v]=>aS v S K | vs=>aS (.tuple vs) S K
noncomputable def nP (f:FuncId) (E:VE) (args:List V) (S:Hp) (K:KV):Prop:=
 match P.funcs[f]? with
 | some fn=>match fn.body with
  | some c=>aGd fn.ntmps args fun ts=>(oD P (tb f) none (IS P (tb f) none uR) c).f E ⟨ts,P.globals.size⟩ S (We P fn K)
  | none=>False
 | none=>False
noncomputable abbrev aGg (l:Nat) (K:KV):CV:=fun e _ S=>match e with
 | .normal=>JN l .ready none true S K
 | .ret=>JN l .done (some .ret) false S K
 | .exit id=>JN l .done (some (.exit id)) false S K
noncomputable abbrev aDm (n l:Nat) (bo:Code) (E:VE) (K:KV):CV:=fun e A S=>match e with
 | .normal=>YL l S fun S=>(oD P (tb (OX n bo)) (some l) (IS P (tb (OX n bo)) (some l) uR) bo).f E A S (aGg l K)
 | _=>False
noncomputable abbrev Wf (ps:List Tmp) (args:List V) (T:Bn) (k:Bn->Prop):Prop:=
 CM (β:=List V->Bn->Prop) (fun as T=>match as with | []=>k T | _=>False) (fun p _ ih as T=>match as with | a::as=>JR a T p fun T=>ih as T | []=>False) ps args T
noncomputable def Bi (E:VE) (n:Nat) (ps:List Tmp) (as bo:Code) (l:Nat) (vs args:List V) (S:Hp) (K:KV):Prop:=
 EE (YJ tb n bo) vs n P.globals.size fun A=>Wf ps args A.tmps fun T=>(oD P (tb (OX n bo)) (some l) (IS P (tb (OX n bo)) (some l) uR) as).f E ⟨T,P.globals.size⟩ S (aDm P tb n l bo E K)
def KQ (E:VE) (l:Nat) (args:List V) (S:Hp) (K:KV):Prop:=match S l with
 | some (.loop ls vs n ps as bo _ _)=>ls=YJ tb n bo/\Bi P tb E n ps as bo l vs args S K
 | _=>False
abbrev XE:=FuncId->Option (List V->Hp->KV->Prop)
noncomputable def Bj (ov:XE) (most:Nat) (n:Nat):VE:=
 Nh (β:=VE) ⟨fun _ _ _ _=>False,fun _ _ _ _=>False,most⟩ (fun _ E=>⟨fun f args S K=>match ov f with | some g=>g args S K | none=>nP P tb f E args S K,fun l args S K=>KQ P tb E l args S K,most⟩) n
variable (Tb:oC) (r:Option Nat) (E:VE)
noncomputable def oJ:List Dir->Nat->Code->List Nat->CV->(Nat->Code->CV->Prop)->Prop
 | [],D,c,_,K,k=>k D c K
 | .l::p,D,.seq a b,ms,K,k=>oJ p D a ms (Nj P (xE Tb b) (oD P Tb r (IS P Tb r D) b) E K) k
 | .r::p,D,.seq _ b,ms,K,k=>oJ p D b ms K k
 | .l::p,D,.cond _ a _,ms,K,k=>oJ p D a ms K k
 | .r::p,D,.cond _ _ b,ms,K,k=>oJ p D b ms K k
 | .d::p,D,.block id a,ms,K,k=>oJ p D a ms (Jz id K) k
 | .d::p,D,.scope a,ms,K,k=>oJ p D a ms K k
 | .d::p,D+1,.loop a,m::ms,K,k=>oJ p D a ms (Br Tb a (HZ P Tb a (oD P Tb r (IS P Tb r D) a) E (Qw P Tb a K) m) (Qw P Tb a K)) k
 | _,_,_,_,_,_=>False
noncomputable def xO (f:FuncId) (E:VE) (p:List Dir) (ms:List Nat) (vs:List V) (S:Hp) (K:KV):Prop:=
 match P.funcs[f]? with
 | some fn=>match fn.body with
  | some c=>oJ P (tb f) none E p uR c ms (We P fn K) fun D c K=>match xE (tb f) c with
   | some l=>Wd P l (oD P (tb f) none (IS P (tb f) none D) c) E K vs fn.ntmps S
   | none=>False
  | none=>False
 | none=>False
noncomputable def xP (f:FuncId) (E:VE) (p:List Dir) (ms:List Nat) (vs:List V) (S:Hp) (K:KV):Prop:=
 match P.funcs[f]? with
 | some fn=>match fn.body with
  | some c=>oJ P (tb f) none E p uR c ms (We P fn K) fun D c K=>match xE (tb f) c with
   | some l=>dX S fun S=>EE l vs fn.ntmps P.globals.size fun A=>(oD P (tb f) none (IS P (tb f) none D) c).f E A S K
   | none=>False
  | none=>False
 | none=>False
noncomputable def kH (f:FuncId) (E:VE) (p:List Dir) (m:Nat) (ms:List Nat) (vs:List V) (S:Hp) (K:KV):Prop:=
 match P.funcs[f]? with
 | some fn=>match fn.body with
  | some c=>oJ P (tb f) none E p uR c ms (We P fn K) fun D c K=>match D,c with
   | D+1,.loop a=>HZ P (tb f) a (oD P (tb f) none (IS P (tb f) none D) a) E (Qw P (tb f) a K) m vs fn.ntmps S
   | _,_=>False
  | none=>False
 | none=>False
def EK:List Dir->Code->Code
 | [],c=>c
 | .l::p,.seq a _=>EK p a
 | .r::p,.seq _ b=>EK p b
 | .l::p,.cond _ a _=>EK p a
 | .r::p,.cond _ _ b=>EK p b
 | .d::p,.block _ a=>EK p a
 | .d::p,.scope a=>EK p a
 | .d::p,.loop a=>EK p a
 | .d::p,.rangeFunc _ _ _ b=>EK p b
 | _,c=>c
def aDn (f:FuncId) (p:List Dir):Code:=match P.funcs[f]? with
 | some fn=>match fn.body with
  | some c=>EK p c
  | none=> .skip
 | none=> .skip
def aAZ (f:FuncId) (p:List Dir):List Tmp:=match aDn P f p with | .rangeFunc _ ps _ _=>ps.toList | _=>[]
def aA0 (f:FuncId) (p:List Dir):Code:=match aDn P f p with | .rangeFunc _ _ as _=>as | _=> .skip
def Wg (f:FuncId) (p:List Dir):Code:=match aDn P f p with | .rangeFunc _ _ _ bo=>bo | _=> .skip
end
structure uN (B:Nat->Prop) (S S':St) (B':Nat->Prop):Prop where
 n:S.n<=S'.n
 same:∀i,i<S.n->¬B i->S'.obj i=S.obj i
 sub:∀i,B' i->B i\/S.n<=i
theorem uN.trans{B B1 B2:Nat->Prop}{S S1 S2:St} (h:uN B S S1 B1) (k:uN B1 S1 S2 B2):uN B S S2 B2:=by
 refine⟨Nat.le_trans h.n k.n,fun i hi hb=>?_,fun i hi=>?_⟩
 ·rw [k.same i (Nat.lt_of_lt_of_le hi h.n) (fun hb1=>?_),h.same i hi hb]
  rcases h.sub i hb1 with h1 | h1
  ·exact hb h1
  ·omega
 ·rcases k.sub i hi with h1 | h1
  ·exact h.sub i h1
  ·exact .inr (Nat.le_trans h.n h1)
theorem uN.refl (B:Nat->Prop) (S:St):uN B S S B:=⟨Nat.le_refl _,fun _ _ _=>rfl,fun _ h=> .inl h⟩
inductive It where
 | num
 | kind
 | int
 | is
 | text
 | nums
 | list (its:List It)
inductive D where
 | n (z:Int)
 | b (v:Bool)
 | s (l:List UInt8)
 | l (es:List (List D))
def Wr (c:CK):Prop:=c= .rs\/c= .exact\/∃l,c= .grown l
inductive Rd (S:St) (C:Nat->Prop):It->Value->D->Prop where
 | num {z:Nat} (h:z<18446744073709551616):Rd S C .num (.int .u64 (.ofNat z)) (.n z)
 | kind {z:Nat} (h:z<256):Rd S C .kind (.int .u8 (.ofNat z)) (.n z)
 | int {z:Int} (h1: -9223372036854775808<=z) (h2:z<9223372036854775808):Rd S C .int (.int .i64 z) (.n z)
 | is {v:Bool}:Rd S C .is (.bool v) (.b v)
 | text {l:List UInt8} (h:l.length<=140737488355328):Rd S C .text (.string ⟨⟨l⟩⟩) (.s l)
 | nums {v:Value} {es:List (List D)} (h:Rd S C (.list [.num]) v (.l es)):Rd S C .nums v (.l es)
 | empty {its:List It}:Rd S C (.list its) (.slice none 0 0) (.l [])
 | OS {its:List It} {b o s:Nat}:Rd S C (.list its) (.slice (some ⟨b,o,some (s+2)⟩) 0 0) (.l [])
 | row {its:List It} {b o n c:Nat} {sp:Option Nat} {vs:List Value} {e:TypeId} {ck:CK} {es:List (List D)} (hsp:ZI sp=true) (hb:b<S.n) (hC:¬C b) (ho:S.obj b=some (.cells vs e ck)) (hw:Wr ck)
  (hn:es.length=n) (hl:o+n*its.length<=vs.length) (hd:∀ds∈es,ds.length=its.length) (hN:n<=140737488355328) (hnc:n<=c)
  (hr:∀(k:Nat) (ds:List D) (j:Nat) (it:It) (v:Value) (d:D),es[k]? =some ds->its[j]? =some it->vs[o+k*its.length+j]? =some v->ds[j]? =some d->Rd S C it v d):Rd S C (.list its) (.slice (some ⟨b,o,sp⟩) n c) (.l es)
theorem Rd.fr{S S':St}{C C':Nat->Prop} (f:uN C S S' C'){it:It}{v:Value}{d:D} (h:Rd S C it v d):Rd S' C' it v d:=by
 induction h with
 | num h=>exact .num h
 | kind h=>exact .kind h
 | int h1 h2=>exact .int h1 h2
 | is=>exact .is
 | text h=>exact .text h
 | nums _ ih=>exact .nums ih
 | empty=>exact .empty
 | OS=>exact .OS
 | row hsp hb hC ho hw hn hl hd hN hnc _ ih=>
  refine .row hsp (Nat.lt_of_lt_of_le hb f.n) (fun h=>?_) (by rw [f.same _ hb hC];exact ho) hw hn hl hd hN hnc ih;rcases f.sub _ h with h | h
  ·exact hC h
  ·omega
structure DZ (S S':St):Prop where
 n:S.n<=S'.n
 same:∀i,i<S.n->S'.obj i=S.obj i
theorem DZ.fr{S S':St} (h:DZ S S') (B:Nat->Prop):uN B S S' B:=⟨h.n,fun i hi _=>h.same i hi,fun _ hi=> .inl hi⟩
theorem DZ.refl (S:St):DZ S S:=⟨Nat.le_refl _,fun _ _=>rfl⟩
structure RdA (S:St) (C:Nat->Prop) (its:List It) (cs:List Value) (ds:List D):Prop where
 len:cs.length=its.length
 Ah:ds.length=its.length
 rd:∀(j:Nat) (it:It) (v:Value) (d:D),its[j]? =some it->cs[j]? =some v->ds[j]? =some d->Rd S C it v d
theorem RdA.fr{S S':St}{C C':Nat->Prop}{its:List It}{cs:List Value}{ds:List D} (h:RdA S C its cs ds) (f:uN C S S' C'):RdA S' C' its cs ds:=⟨h.len,h.Ah,fun j it v d a b c=>(h.rd j it v d a b c).fr f⟩
theorem DZ.trans{a b c:St} (h:DZ a b) (k:DZ b c):DZ a c:=⟨Nat.le_trans h.n k.n,fun i hi=>by rw [k.same i (Nat.lt_of_lt_of_le hi h.n),h.same i hi]⟩
theorem DZ.new (S:St) (o:gF):DZ S (S.new o):=⟨Nat.le_succ _,fun _i hi=>fM (Nat.ne_of_lt hi)⟩
structure Cx where
 Zz:Nat->Option Nat
 G:Nat->Nat->Option Value
 Yz:Nat->Option Value
 n0:Nat
structure Cx.le0 (c d:Cx):Prop where
 Zz:∀i b,c.Zz i=some b->d.Zz i=some b
 G:∀i n v,c.G i n=some v->d.G i n=some v
 Yz:∀k v,c.Yz k=some v->d.Yz k=some v
structure Cx.le (c d:Cx):Prop where
 Zz:∀i b,c.Zz i=some b->d.Zz i=some b
 G:∀i n v,c.G i n=some v->d.G i n=some v
 Yz:∀k v,c.Yz k=some v->d.Yz k=some v
 n0:d.n0=c.n0
theorem Cx.le.refl (c:Cx):c.le c:=⟨fun _ _ h=>h,fun _ _ _ h=>h,fun _ _ h=>h,rfl⟩
theorem Cx.le.trans{a b c:Cx} (h:a.le b) (k:b.le c):a.le c:=⟨fun i b e=>k.Zz i b (h.Zz i b e),fun i n v e=>k.G i n v (h.G i n v e),fun i v e=>k.Yz i v (h.Yz i v e),k.n0.trans h.n0⟩
theorem Cx.le.to0{a b:Cx} (h:a.le b):a.le0 b:=⟨h.Zz,h.G,h.Yz⟩
structure Fc (C:Nat->Prop) (S S':St) (C':Nat->Prop):Prop where
 n:S.n<=S'.n
 same:∀b,b<S.n->¬C b->∀vs e ck,S.obj b=some (.cells vs e ck)->S'.obj b=some (.cells vs e ck)
 sub:∀b,C' b->C b\/S.n<=b
theorem Fc.of{C C':Nat->Prop}{S S':St} (f:uN C S S' C'):Fc C S S' C':=⟨f.n,fun b h1 h2 _ _ _ e=>by rw [f.same b h1 h2];exact e,f.sub⟩
inductive FO (S:St) (C:Nat->Prop):Dt->Value->Prop
 | int {k:IntKind} {z:Int}:FO S C (.int k z) (.int k z)
 | bool {b:Bool}:FO S C (.bool b) (.bool b)
 | str {l:List UInt8}:FO S C (.str l) (.string ⟨⟨l⟩⟩)
 | nil:FO S C (.list [] 0) (.slice none 0 0)
 | emp {b o s:Nat}:FO S C (.list [] 0) (.slice (some ⟨b,o,some (s+2)⟩) 0 0)
 | row {b o n c:Nat} {sp:Option Nat} {vs:List Value} {e:TypeId} {ck:CK} {cs:List Dt} (hsp:ZI sp=true) (hb:b<S.n) (hC:¬C b) (ho:S.obj b=some (.cells vs e ck)) (hl:o+cs.length<=vs.length) (hn:n<=c)
  (hr:∀(j:Nat) (d:Dt) (v:Value),cs[j]? =some d->vs[o+j]? =some v->FO S C d v):FO S C (.list cs n) (.slice (some ⟨b,o,sp⟩) n c)
inductive KW (c:Cx) (S:St) (C:Nat->Prop):Tag->Value->Prop
 | root {k:Nat} {w:Value} (h:c.Yz k=some w):KW c S C (.root k) w
 | sub {O:Tag} {b o n cc k:Nat} {sp:Option Nat} {vs:List Value} {e:TypeId} {ck:CK} {w:Value} (h:KW c S C O (.slice (some ⟨b,o,sp⟩) n cc)) (hb:b<S.n) (hC:¬C b) (ho:S.obj b=some (.cells vs e ck)) (hv:vs[o+k]? =some w):KW c S C (.sub O k) w
inductive fB (c:Cx) (S:St) (C:Nat->Prop):V->Value->Prop
 | int {k:IntKind} {z:Int}:fB c S C (.int k z) (.int k z)
 | bool {b:Bool}:fB c S C (.bool b) (.bool b)
 | str {l:List UInt8}:fB c S C (.str l) (.string ⟨⟨l⟩⟩)
 | list {O:Tag} {cs:List Dt} {n:Nat} {w:Value} (ht:KW c S C O w) (hd:FO S C (.list cs n) w):fB c S C (.list O cs n) w
 | tS {O:Tag} {cs:List Dt} {b o n cc k:Nat} {sp:Option Nat} (ht:KW c S C O (.slice (some ⟨b,o,sp⟩) n cc)) (hd:FO S C (.list cs n) (.slice (some ⟨b,o,sp⟩) n cc)):fB c S C (.tS O cs k) (.pointer (some ⟨b,o+k,none⟩))
 | nil:fB c S C .nil (.slice none 0 0)
 | acc {i n:Nat} {w:Value} (h:c.G i n=some w):fB c S C (.acc i n) w
 | FN {i n o k cc b:Nat} (h:c.G i n=some (.slice (some ⟨b,0,some 0⟩) n n)):fB c S C (.FN i n o k cc) (.slice (some ⟨b,o,some 0⟩) k cc)
 | Wh {i n b:Nat} (h:c.G i n=some (.slice (some ⟨b,0,some 0⟩) n n)):fB c S C (.emp i n) (.slice (some ⟨b,0,some 1⟩) 0 0)
 | nV {i n o b:Nat} (h:c.G i n=some (.slice (some ⟨b,0,some 0⟩) n n)):fB c S C (.nV i n o) (.pointer (some ⟨b,o,none⟩))
 | own {i o n m b:Nat} (h:c.Zz i=some b):fB c S C (.own i o n m) (.slice (some ⟨b,o,none⟩) n m)
 | ptr {i o b:Nat} (h:c.Zz i=some b):fB c S C (.ptr i o) (.pointer (some ⟨b,o,none⟩))
 | pW:fB c S C .pW (.pointer none)
 | XB:fB c S C .XB .nilIface
 | rS {i b:Nat} (h:c.Zz i=some b):fB c S C (.rS i) (.map (some b))
 | XC:fB c S C .XC (.map none)
 | GQ:fB c S C .GQ .nilFunc
 | yield {l b:Nat} (h:c.Zz l=some b):fB c S C (.yield l) (.func (.yield b) ⟨[]⟩ ⟨[]⟩)
 | func {f:FuncId} {a d:List V} {a' d':List Value} (la:a.length=a'.length) (ld:d.length=d'.length) (ha:∀(k:Nat) (v:V) (w:Value),a[k]? =some v->a'[k]? =some w->fB c S C v w) (hd:∀(k:Nat) (v:V) (w:Value),d[k]? =some v->d'[k]? =some w->fB c S C v w):fB c S C (.func f a d) (.func (.func f) ⟨a'⟩ ⟨d'⟩)
 | meth {s:String} {v:V} {w:Value} (h:fB c S C v w):fB c S C (.meth s v) (.func (.method s) ⟨[w]⟩ ⟨[]⟩)
 | iface {t:TypeId} {v:V} {w:Value} (h:fB c S C v w):fB c S C (.iface t v) (.iface t w)
 | agg {a:List V} {a':List Value} (la:a.length=a'.length) (ha:∀(k:Nat) (v:V) (w:Value),a[k]? =some v->a'[k]? =some w->fB c S C v w):fB c S C (.agg a) (.agg ⟨a'⟩)
 | tuple {a:List V} {a':List Value} (la:a.length=a'.length) (ha:∀(k:Nat) (v:V) (w:Value),a[k]? =some v->a'[k]? =some w->fB c S C v w):fB c S C (.tuple a) (.tuple ⟨a'⟩)
structure jQ (c:Cx) (S:St) (C:Nat->Prop) (a:List V) (a':List Value):Prop where
 len:a.length=a'.length
 rd:∀(k:Nat) (v:V) (w:Value),a[k]? =some v->a'[k]? =some w->fB c S C v w
section
variable{S S':St}{C C':Nat->Prop}{c d:Cx}
theorem FO.mono' (f:Fc C S S' C'){x:Dt}{v:Value} (h:FO S C x v):FO S' C' x v:=by
 induction h with
 | int=>exact .int
 | bool=>exact .bool
 | str=>exact .str
 | nil=>exact .nil
 | emp=>exact .emp
 | row hsp hb hC ho hl hn _ ih=>
  refine .row hsp (Nat.lt_of_lt_of_le hb f.n) (fun h=>?_) (f.same _ hb hC _ _ _ ho) hl hn ih;rcases f.sub _ h with h | h
  ·exact hC h
  ·omega
theorem KW.mono' (l:c.le0 d) (f:Fc C S S' C'){O:Tag}{v:Value} (h:KW c S C O v):KW d S' C' O v:=by
 induction h with
 | root h=>exact .root (l.Yz _ _ h)
 | sub _ hb hC ho hv ih=>
  refine .sub ih (Nat.lt_of_lt_of_le hb f.n) (fun h=>?_) (f.same _ hb hC _ _ _ ho) hv;rcases f.sub _ h with h | h
  ·exact hC h
  ·omega
theorem fB.mono' (l:c.le0 d) (f:Fc C S S' C'){x:V}{v:Value} (h:fB c S C x v):fB d S' C' x v:=by
 induction h with
 | int=>exact .int
 | bool=>exact .bool
 | str=>exact .str
 | list ht hd=>exact .list (ht.mono' l f) (hd.mono' f)
 | tS ht hd=>exact .tS (ht.mono' l f) (hd.mono' f)
 | nil=>exact .nil
 | acc h=>exact .acc (l.G _ _ _ h)
 | nV h=>exact .nV (l.G _ _ _ h)
 | FN h=>exact .FN (l.G _ _ _ h)
 | Wh h=>exact .Wh (l.G _ _ _ h)
 | own h=>exact .own (l.Zz _ _ h)
 | ptr h=>exact .ptr (l.Zz _ _ h)
 | pW=>exact .pW
 | XB=>exact .XB
 | rS h=>exact .rS (l.Zz _ _ h)
 | XC=>exact .XC
 | GQ=>exact .GQ
 | yield h=>exact .yield (l.Zz _ _ h)
 | func la ld _ _ i1 i2=>exact .func la ld i1 i2
 | meth _ ih=>exact .meth ih
 | iface _ ih=>exact .iface ih
 | agg la _ ih=>exact .agg la ih
 | tuple la _ ih=>exact .tuple la ih
theorem FO.mono (f:uN C S S' C'){x:Dt}{v:Value} (h:FO S C x v):FO S' C' x v:=h.mono' (.of f)
theorem fB.mono (l:c.le d) (f:uN C S S' C'){x:V}{v:Value} (h:fB c S C x v):fB d S' C' x v:=h.mono' l.to0 (.of f)
theorem jQ.mono' (l:c.le0 d) (f:Fc C S S' C'){x:List V}{v:List Value} (h:jQ c S C x v):jQ d S' C' x v:=⟨h.len,fun k a b p q=>(h.rd k a b p q).mono' l f⟩
theorem jQ.mono (l:c.le d) (f:uN C S S' C'){x:List V}{v:List Value} (h:jQ c S C x v):jQ d S' C' x v:=⟨h.len,fun k a b p q=>(h.rd k a b p q).mono l f⟩
theorem KW.fn{O:Tag}{v:Value} (h:KW c S C O v):∀{w:Value},KW c S C O w->v=w:=by
 induction h with
 | root h=>
  intro w k;cases k with | root k=>rw [h]at k;injection k
 | sub _ hb hC ho hv ih=>
  intro w k;cases k with
  | sub h2 hb2 hC2 ho2 hv2=>
   have:=ih h2;injection this with e1 e2 e3;injection e1 with e1;injection e1 with e4 e5 e6;subst e4 e5;rw [ho]at ho2;injection ho2 with ho2;injection ho2 with ho2;subst ho2;rw [hv]at hv2;injection hv2
theorem IA{a:List V}{x y:List Value} (hx:a.length=x.length) (hy:a.length=y.length) (h:∀(k:Nat) (v:V) (w:Value),a[k]? =some v->x[k]? =some w->∀{u:Value},fB c S C v u->w=u) (k:∀(k:Nat) (v:V) (w:Value),a[k]? =some v->y[k]? =some w->fB c S C v w):x=y:=by
 refine List.ext_getElem (by omega) fun i a1 a2=>?_;exact h i _ _ (List.getElem?_eq_getElem (by omega)) (List.getElem?_eq_getElem a1) (k i _ _ (List.getElem?_eq_getElem (by omega)) (List.getElem?_eq_getElem a2))
theorem fB.fn{x:V}{v:Value} (h:fB c S C x v):∀{w:Value},fB c S C x w->v=w:=by
 induction h with
 | int=>intro w k;cases k;rfl
 | bool=>intro w k;cases k;rfl
 | str=>intro w k;cases k;rfl
 | list ht _=>intro w k;cases k with | list ht2 _=>exact ht.fn ht2
 | tS ht _=>
  intro w k;cases k with
  | tS ht2 _=>
   have:=ht.fn ht2;injection this with e1 e2 e3;injection e1 with e1;injection e1 with e4 e5 e6;subst e4 e5;rfl
 | nil=>intro w k;cases k;rfl
 | acc h=>intro w k;cases k with | acc k=>rw [h]at k;injection k
 | FN h=>
  intro w k;cases k with
  | FN k=>
   rw [h]at k;injection k with k;injection k with e1 e2 e3;injection e1 with e1;injection e1 with e4 e5 e6;subst e4;rfl
 | Wh h=>
  intro w k;cases k with
  | Wh k=>
   rw [h]at k;injection k with k;injection k with e1 e2 e3;injection e1 with e1;injection e1 with e4 e5 e6;subst e4;rfl
 | nV h=>
  intro w k;cases k with
  | nV k=>
   rw [h]at k;injection k with k;injection k with e1 e2 e3;injection e1 with e1;injection e1 with e4 e5 e6;subst e4;rfl
 | own h=>intro w k;cases k with | own k=>rw [h]at k;injection k with k;subst k;rfl
 | ptr h=>intro w k;cases k with | ptr k=>rw [h]at k;injection k with k;subst k;rfl
 | pW=>intro w k;cases k;rfl
 | XB=>intro w k;cases k;rfl
 | XC=>intro w k;cases k;rfl
 | rS h=>intro w k;cases k with | rS k=>rw [h]at k;injection k with k;subst k;rfl
 | GQ=>intro w k;cases k;rfl
 | yield h=>intro w k;cases k with | yield k=>rw [h]at k;injection k with k;subst k;rfl
 | func la ld _ _ i1 i2=>
  intro w k;cases k with
  | func la2 ld2 k1 k2=>rw [IA la la2 (fun k v w p q u=>i1 k v w p q) k1,IA ld ld2 (fun k v w p q u=>i2 k v w p q) k2]
 | meth _ ih=>intro w k;cases k with | meth k=>rw [ih k]
 | iface _ ih=>intro w k;cases k with | iface k=>rw [ih k]
 | agg la _ ih=>intro w k;cases k with | agg la2 k=>rw [IA la la2 (fun k v w p q u=>ih k v w p q) k]
 | tuple la _ ih=>intro w k;cases k with | tuple la2 k=>rw [IA la la2 (fun k v w p q u=>ih k v w p q) k]
theorem jQ.nil:jQ c S C [] []:=⟨rfl,fun k v w a=>by simp at a⟩
theorem jQ.cons{v:V}{w:Value}{l:List V}{m:List Value} (h:fB c S C v w) (k:jQ c S C l m):jQ c S C (v::l) (w::m):=by
 refine⟨by simp [k.len],fun j x y a b=>?_⟩;cases j with
 | zero=>simp at a b;subst a b;exact h
 | succ j=>simp at a b;exact k.rd j x y a b
theorem jQ.pB{m:List Value} (h:jQ c S C [] m):m=[]:=List.eq_nil_of_length_eq_zero (by simpa using h.len.symm)
theorem jQ.cons_inv{v:V}{l:List V}{m:List Value} (h:jQ c S C (v::l) m):∃w m',m=w::m'/\fB c S C v w/\jQ c S C l m':=by
 cases m with
 | nil=>have:=h.len;simp at this
 | cons w m=>exact⟨w,m,rfl,h.rd 0 v w rfl rfl,by simpa using h.len,fun k x y a b=>h.rd (k+1) x y (by simpa using a) (by simpa using b)⟩
theorem jQ.app{l l2:List V}{m m2:List Value} (h:jQ c S C l m) (k:jQ c S C l2 m2):jQ c S C (l++l2) (m++m2):=by
 refine⟨by simp [h.len,k.len],fun j x y a b=>?_⟩;have hl:=h.len;by_cases hj:j<l.length
 ·rw [List.getElem?_append_left hj]at a
  rw [List.getElem?_append_left (by omega)]at b;exact h.rd j x y a b
 ·rw [List.getElem?_append_right (by omega)]at a b
  exact k.rd _ x y a (by rw [hl];exact b)
theorem jQ.take{l:List V}{m:List Value} (h:jQ c S C l m) (n:Nat):jQ c S C (l.take n) (m.take n):=by
 refine⟨by simp [h.len],fun j x y a b=>?_⟩;rw [List.getElem?_take]at a b;split at a
 ·rename_i hj;rw [if_pos hj]at b;exact h.rd j x y a b
 ·cases a
theorem jQ.drop{l:List V}{m:List Value} (h:jQ c S C l m) (n:Nat):jQ c S C (l.drop n) (m.drop n):=by
 refine⟨by simp [h.len],fun j x y a b=>?_⟩;rw [List.getElem?_drop]at a b;exact h.rd _ x y a b
theorem jQ.splice{l n:List V}{m n':List Value} (h:jQ c S C l m) (k:jQ c S C n n') (o:Nat):jQ c S C (Am.splice o n l) (Am.splice o n' m):=by
 unfold Am.splice;rw [<-k.len];exact((h.take o).app k).app (h.drop _)
theorem jQ.get{l:List V}{m:List Value} (h:jQ c S C l m){k:Nat}{v:V} (hv:l[k]? =some v):∃w,m[k]? =some w/\fB c S C v w:=by
 have hk:k<m.length:=by rw [<-h.len];exact(List.getElem?_eq_some_iff.1 hv).1
 exact⟨m[k],List.getElem?_eq_getElem hk,h.rd k v _ hv (List.getElem?_eq_getElem hk)⟩
theorem jQ.flatten{l:List V}{m:List Value} (h:jQ c S C l m) (n:Nat):jQ c S C (List.replicate n l).flatten (List.replicate n m).flatten:=by
 induction n with
 | zero=>exact .nil
 | succ n ih=>simp only [List.replicate_succ,List.flatten_cons];exact h.app ih
theorem Gg{v:Value}{x:V} (h:ofV v=some x):bH v=true:=by
 unfold ofV at h;split at h<;>first | rfl | cases h
theorem Wi{v:Value}{x:V} (h:ofV v=some x):fB c S C x v:=by
 unfold ofV at h;split at h<;>first | (injection h with h;subst h;first | exact .int | exact .bool | exact .str | exact .pW | exact .nil | exact .XB | exact .GQ | exact .XC) | cases h
theorem IB:∀{z:List Value} {l:List V},KO z=some l->jQ c S C l z:=by
 intro z;induction z with
 | nil=>intro l h;simp [KO]at h;subst h;exact .nil
 | cons v z ih=>
  intro l h;unfold KO at h;split at h
  ·rename_i x hx
   split at h
   ·rename_i xs hxs
    injection h with h;subst h;exact .cons (Wi hx) (ih hxs)
   ·cases h
  ·cases h
end
theorem aDo{c:Cx}{S:St}{C:Nat->Prop}{O:Tag}{d:Dt}{w:Value} (h:FO S C d w) (ht:KW c S C O w):fB c S C (T O d) w:=by
 cases h with
 | int=>exact .int
 | bool=>exact .bool
 | str=>exact .str
 | nil=>exact .list ht .nil
 | emp=>exact .list ht .emp
 | row a b e f g i j=>exact .list ht (.row a b e f g i j)
def EL (es:List MapEntry) (ck:Nat):Prop:=(es.map (·.born)).Pairwise (· < ·)/\∀e∈es,e.born<ck
theorem EL.app{es:List MapEntry}{ck:Nat} (b:EL es ck){e:MapEntry} (he:e.born=ck):EL (es++[e]) (ck+1):=by
 refine⟨?_,fun x hx=>?_⟩
 ·rw [List.map_append,List.pairwise_append]
  refine⟨b.1,by simp,fun x hx y hy=>?_⟩;obtain⟨z,hz,rfl⟩:=List.mem_map.1 hx;simp at hy;subst hy;rw [he];exact b.2 z hz
 ·rcases List.mem_append.1 hx with hx | hx
  ·have:=b.2 x hx;omega
  ·simp at hx;subst hx;omega
theorem EL.set{es:List MapEntry}{ck:Nat} (b:EL es ck){j:Nat}{e e2:MapEntry} (hj:es[j]? =some e) (he:e2.born=e.born):EL (es.set j e2) ck:=by
 have hm:(es.set j e2).map (·.born)=es.map (·.born):=by
  apply List.ext_getElem?;intro k;rw [List.getElem?_map,List.getElem?_map,List.getElem?_set];split
  ·rename_i h;subst h
   have hlt:=(List.getElem?_eq_some_iff.1 hj).1;rw [if_pos hlt,hj];simp [he]
  ·rfl
 refine⟨by rw [hm];exact b.1,fun x hx=>?_⟩;obtain⟨k,hk⟩:=List.getElem?_of_mem hx;have h1:((es.set j e2).map (·.born))[k]? =some x.born:=by rw [List.getElem?_map,hk];rfl
 rw [hm,List.getElem?_map]at h1;cases hq:es[k]? with
 | none=>rw [hq]at h1;cases h1
 | some y=>
  rw [hq]at h1;simp at h1;rw [<-h1];exact b.2 y (List.mem_of_getElem? hq)
def ObR (c:Cx) (S:St) (C:Nat->Prop) (o:Ob) (a:gF):Prop:=match o with
 | .row vs t=>∃ws,a= .cells ws t .exact/\jQ c S C vs ws
 | .iD _ _ _=>False
 | .map es=>∃es' clock,a= .map es' clock/\EL es' clock/\es.length=es'.length/\∀(k:Nat) (x:V×V) (y:MapEntry),es[k]? =some x->es'[k]? =some y->fB c S C x.1 y.key/\fB c S C x.2 y.val
 | .loop ls vs n ps as bo st pe=>∃T,a= .loop T ps as bo st pe/\n=T.n/\vs.length=ls.length/\∀(j i:Nat) (v:V),ls[j]? =some i->vs[j]? =some v->∃w,T.t.get i=some w/\fB c S C v w
theorem ObR.mono'{c d:Cx}{S S':St}{C C':Nat->Prop} (l:c.le0 d) (f:Fc C S S' C'){o:Ob}{a:gF} (h:ObR c S C o a):ObR d S' C' o a:=by
 cases o with
 | row vs t=>obtain⟨ws,e,r⟩:=h;exact⟨ws,e,r.mono' l f⟩
 | iD=>exact h
 | map es=>
  obtain⟨es',k,e,hb,hl,r⟩:=h;exact⟨es',k,e,hb,hl,fun i x y p q=>⟨(r i x y p q).1.mono' l f,(r i x y p q).2.mono' l f⟩⟩
 | loop ls vs n ps as bo st pe=>
  obtain⟨T,e,hn,q,r⟩:=h;exact⟨T,e,hn,q,fun j i v p p2=>let⟨w,a,b⟩:=r j i v p p2;⟨w,a,b.mono' l f⟩⟩
theorem ObR.mono{c d:Cx}{S S':St}{C C':Nat->Prop} (l:c.le d) (f:uN C S S' C'){o:Ob}{a:gF} (h:ObR c S C o a):ObR d S' C' o a:=h.mono' l.to0 (.of f)
def pM (c:Cx) (h:Hp) (i b:Nat):Prop:=(∃o,h i=some o/\GR o=false/\c.Zz i=some b)\/∃vs t n m,h i=some (.iD vs t n)/\c.G i m=some (.slice (some ⟨b,0,some 0⟩) m m)
section
variable (P:Program) (B:Nat->Prop) (Sb:St)
def dB (c:Cx) (h:Hp):Nat->Prop:=fun b=>B b\/∃i,pM c h i b
structure VS (c:Cx) (h:Hp) (S:St):Prop where
 base:DZ Sb S
 bB:∀b,B b->b<Sb.n
 ob:∀i o,h i=some o->GR o=false->∃b a,c.Zz i=some b/\Sb.n<=b/\b<S.n/\S.obj b=some a/\ObR c S (dB B c h) o a
 iD:∀i vs t n,h i=some (.iD vs t n)->∃b ws olds sz,c.G i n=some (.slice (some ⟨b,0,some 0⟩) n n)/\Sb.n<=b/\b<S.n/\S.obj b=some (.cells ws t (.grown olds))/\jQ c S (dB B c h) vs ws/\bQ P t=some sz/\vs.length=n*sz/\∀m,n<m->c.G i m=none
 inj:∀i j b,pM c h i b->pM c h j b->i=j
 Gs:∀i n w,c.G i n=some w->∃b,w= .slice (some ⟨b,0,some 0⟩) n n
 room:∃N,∀i,N<=i->h i=none/\c.Zz i=none/\∀n,c.G i n=none
 JT:∃M,∀k,M<=k->c.Yz k=none
 Gb:∀i vs t n m b,h i=some (.iD vs t n)->c.G i m=some (.slice (some ⟨b,0,some 0⟩) m m)->Sb.n<=b/\b<S.n
 old:∀i vs t n b ws e olds,h i=some (.iD vs t n)->c.G i n=some (.slice (some ⟨b,0,some 0⟩) n n)->S.obj b=some (.cells ws e (.grown olds))->∀x∈olds,∃m,c.G i m=some (.slice (some ⟨x,0,some 0⟩) m m)
end
section
variable{P:Program}{B:Nat->Prop}{Sb:St}{c d:Cx}{h h':Hp}{S S':St}
theorem VS.row (s:VS P B Sb c h S) (i:Nat) (vs:List V) (t:TypeId) (e:h i=some (.row vs t)):∃b ws,c.Zz i=some b/\Sb.n<=b/\b<S.n/\S.obj b=some (.cells ws t .exact)/\jQ c S (dB B c h) vs ws:=by
 obtain⟨b,a,a1,a2,a3,a4,ws,rfl,a5⟩:=s.ob i _ e rfl;exact⟨b,ws,a1,a2,a3,a4,a5⟩
theorem VS.bd (s:VS P B Sb c h S){i b:Nat} (l:pM c h i b):Sb.n<=b/\b<S.n:=by
 rcases l with ⟨o,e1,eg,e2⟩ | ⟨vs,t,n,m,e1,e2⟩
 ·obtain⟨b',ws,a1,a2,a3,_⟩:=s.ob i o e1 eg
  rw [e2]at a1;injection a1 with a1;subst a1;exact⟨a2,a3⟩
 ·exact s.Gb i vs t n m b e1 e2
theorem VS.fresh (s:VS P B Sb c h S):∃i,h i=none/\c.Zz i=none/\∀n,c.G i n=none:=by
 obtain⟨N,hN⟩:=s.room;exact⟨N,hN N (Nat.le_refl _)⟩
theorem VS.Qx (s:VS P B Sb c h S){b:Nat} (l:dB B c h b):b<S.n:=by
 rcases l with l | ⟨i,l⟩
 ·exact Nat.lt_of_lt_of_le (s.bB b l) s.base.n
 ·exact(s.bd l).2
def Cx.putZ (c:Cx) (i b:Nat):Cx:=⟨fun j=>if j=i then some b else c.Zz j,c.G,c.Yz,c.n0⟩
def Cx.putG (c:Cx) (i n:Nat) (w:Value):Cx:=⟨c.Zz,fun j m=>if j=i/\m=n then some w else c.G j m,c.Yz,c.n0⟩
theorem Cx.putZ_le{i b:Nat} (hi:c.Zz i=none):c.le (c.putZ i b):=by
 refine⟨fun j x e=>?_,fun _ _ _ e=>e,fun _ _ e=>e,rfl⟩;show(if j=i then some b else c.Zz j)=some x;rw [if_neg (fun e2=>by subst e2;rw [hi]at e;cases e)];exact e
theorem Cx.putG_le{i n:Nat}{w:Value} (hi:c.G i n=none):c.le (c.putG i n w):=by
 refine⟨fun _ _ e=>e,fun j m x e=>?_,fun _ _ e=>e,rfl⟩;show(if j=i/\m=n then some w else c.G j m)=some x;rw [if_neg (fun e2=>by obtain⟨rfl,rfl⟩:=e2;rw [hi]at e;cases e)];exact e
theorem upd_same{i:Nat}{o:Ob}:upd h i o i=some o:=if_pos rfl
theorem aG{i j:Nat}{o:Ob} (e:j≠i):upd h i o j=h j:=if_neg e
theorem VS.Wj (s:VS P B Sb c h S){i:Nat} (_h0:h i=none) (h1:c.Zz i=none) (_h2:∀n,c.G i n=none){o:Ob}{ao:gF} (hg:GR o=false) (ho:∀d S' C',c.le d->uN (dB B c h) S S' C'->ObR d S' C' o ao):
 VS P B Sb (c.putZ i S.n) (upd h i o) (S.new ao)/\c.le (c.putZ i S.n)/\uN (dB B c h) S (S.new ao) (dB B (c.putZ i S.n) (upd h i o))/\(c.putZ i S.n).Zz i=some S.n:=by
 have le:=Cx.putZ_le (c:=c) (i:=i) (b:=S.n) h1
 have OD:∀j b,pM (c.putZ i S.n) (upd h i o) j b->(j=i/\b=S.n)\/(j≠i/\pM c h j b):=by
  intro j b l;by_cases e:j=i
  ·subst e
   rcases l with ⟨o',_,_,e2⟩ | ⟨vs',t',n,m,e1,e2⟩
   ·have:(if j=j then some S.n else c.Zz j)=some b:=e2
    rw [if_pos rfl]at this;injection this with this;exact .inl ⟨rfl,this.symm⟩
   ·rw [upd_same]at e1;injection e1 with e1;subst e1;cases hg
  ·refine .inr ⟨e,?_⟩
   rcases l with ⟨o',e1,eg,e2⟩ | ⟨vs',t',n,m,e1,e2⟩
   ·rw [aG e]at e1
    have e2:(if j=i then some S.n else c.Zz j)=some b:=e2;rw [if_neg e]at e2;exact .inl ⟨o',e1,eg,e2⟩
   ·rw [aG e]at e1
    exact .inr ⟨vs',t',n,m,e1,e2⟩
 have fr:uN (dB B c h) S (S.new ao) (dB B (c.putZ i S.n) (upd h i o)):=by
  refine⟨Nat.le_succ _,fun j hj _=>fM (Nat.ne_of_lt hj),fun b l=>?_⟩;rcases l with l | ⟨j,l⟩
  ·exact .inl (.inl l)
  ·rcases OD j b l with ⟨_,e⟩ | ⟨_,l⟩
   ·exact .inr (Nat.le_of_eq e.symm)
   ·exact .inl (.inr ⟨j,l⟩)
 refine⟨⟨s.base.trans (.new S _),s.bB,?_,?_,?_,s.Gs,?_,s.JT,?_,?_⟩,le,fr,if_pos rfl⟩
 ·intro j o' e eg
  by_cases e2:j=i
  ·subst e2
   rw [upd_same]at e;injection e with e;subst e;exact⟨S.n,ao,if_pos rfl,s.base.n,Nat.lt_succ_self _,oY,ho _ _ _ le fr⟩
  ·rw [aG e2]at e
   obtain⟨b,a',a1,a2,a3,a4,a5⟩:=s.ob j o' e eg;exact⟨b,a',le.Zz _ _ a1,a2,Nat.lt_succ_of_lt a3,by rw [fM (by omega)];exact a4,a5.mono le fr⟩
 ·intro j vs' t' n e
  have e2:j≠i:=fun e2=>by subst e2;rw [upd_same]at e;injection e with e;subst e;cases hg
  rw [aG e2]at e;obtain⟨b,ws',olds,sz,a1,a2,a3,a4,a5,a6⟩:=s.iD j vs' t' n e;exact⟨b,ws',olds,sz,a1,a2,Nat.lt_succ_of_lt a3,by rw [fM (by omega)];exact a4,a5.mono le fr,a6⟩
 ·intro j k b l1 l2
  rcases OD j b l1 with ⟨e1,e2⟩ | ⟨e1,l1⟩
  ·rcases OD k b l2 with ⟨e3,e4⟩ | ⟨e3,l2⟩
   ·rw [e1,e3]
   ·have:=(s.bd l2).2;omega
  ·rcases OD k b l2 with ⟨e3,e4⟩ | ⟨e3,l2⟩
   ·have:=(s.bd l1).2;omega
   ·exact s.inj j k b l1 l2
 ·obtain⟨N,hN⟩:=s.room
  refine⟨max N (i+1),fun j hj=>?_⟩;obtain⟨a1,a2,a3⟩:=hN j (by omega);exact⟨by rw [aG (by omega)];exact a1,by show(if j=i then _ else c.Zz j)=none;rw [if_neg (by omega)];exact a2,a3⟩
 ·intro j vs' t' n m b e e3
  have e2:j≠i:=fun e2=>by subst e2;rw [upd_same]at e;injection e with e;subst e;cases hg
  rw [aG e2]at e;obtain⟨q1,q2⟩:=s.Gb j vs' t' n m b e e3;exact⟨q1,Nat.lt_succ_of_lt q2⟩
 ·intro j vs' t' n b ws' e' olds e e3 e4
  have e2:j≠i:=fun e2=>by subst e2;rw [upd_same]at e;injection e with e;subst e;cases hg
  rw [aG e2]at e;rw [fM (by have:=(s.Gb j vs' t' n n b e e3).2;omega)]at e4;exact s.old j vs' t' n b ws' e' olds e e3 e4
theorem VS.newRow (s:VS P B Sb c h S){i:Nat} (h0:h i=none) (h1:c.Zz i=none) (h2:∀n,c.G i n=none){vs:List V}{ws:List Value} (t:TypeId) (hv:jQ c S (dB B c h) vs ws):
 VS P B Sb (c.putZ i S.n) (upd h i (.row vs t)) (S.new (.cells ws t .exact))/\c.le (c.putZ i S.n)/\uN (dB B c h) S (S.new (.cells ws t .exact)) (dB B (c.putZ i S.n) (upd h i (.row vs t)))/\(c.putZ i S.n).Zz i=some S.n:=
 s.Wj h0 h1 h2 (o:= .row vs t) rfl fun _ _ _ l f=>⟨ws,rfl,hv.mono l f⟩
theorem VS.Gh (s:VS P B Sb c h S){i b:Nat}{o0 o:Ob} (h0:h i=some o0) (g0:GR o0=false) (h1:c.Zz i=some b){ao:gF} (hg:GR o=false) (ho:∀S' C',uN (dB B c h) S S' C'->ObR c S' C' o ao):
 VS P B Sb c (upd h i o) (S.set b ao)/\uN (dB B c h) S (S.set b ao) (dB B c (upd h i o)):=by
 have hb:pM c h i b:= .inl ⟨o0,h0,g0,h1⟩;obtain⟨g1,g2⟩:=s.bd hb
 have OD:∀j x,pM c (upd h i o) j x->pM c h j x:=by
  intro j x l;by_cases e:j=i
  ·subst e
   rcases l with ⟨o',e1,eg,e2⟩ | ⟨vs2,t2,n,m,e1,e2⟩
   ·exact .inl ⟨o0,h0,g0,e2⟩
   ·rw [upd_same]at e1;injection e1 with e1;subst e1;cases hg
  ·rcases l with ⟨o',e1,eg,e2⟩ | ⟨vs2,t2,n,m,e1,e2⟩
   ·rw [aG e]at e1;exact .inl ⟨o',e1,eg,e2⟩
   ·rw [aG e]at e1;exact .inr ⟨vs2,t2,n,m,e1,e2⟩
 have fr:uN (dB B c h) S (S.set b ao) (dB B c (upd h i o)):=by
  refine⟨Nat.le_refl _,fun j _ hc=>iV fun e=>hc (.inr ⟨i,e▸hb⟩),fun x l=>?_⟩;rcases l with l | ⟨j,l⟩
  ·exact .inl (.inl l)
  ·exact .inl (.inr ⟨j,OD j x l⟩)
 refine⟨⟨⟨s.base.n,fun j hj=>?_⟩,s.bB,?_,?_,fun j k x l1 l2=>s.inj j k x (OD j x l1) (OD k x l2),s.Gs,?_,s.JT,?_,?_⟩,fr⟩
 ·rw [iV (by omega)];exact s.base.same j hj
 ·intro j o' e eg
  by_cases e2:j=i
  ·subst e2
   rw [upd_same]at e;injection e with e;subst e;exact⟨b,ao,h1,g1,g2,Av,ho _ _ fr⟩
  ·rw [aG e2]at e
   obtain⟨x,a',a1,a2,a3,a4,a5⟩:=s.ob j o' e eg;have:x≠b:=fun e3=>e2 (s.inj j i b (.inl ⟨o',e,eg,e3▸a1⟩) hb);exact⟨x,a',a1,a2,a3,by rw [iV this];exact a4,a5.mono (.refl c) fr⟩
 ·intro j vs2 t2 n e
  have e2:j≠i:=fun e2=>by subst e2;rw [upd_same]at e;injection e with e;subst e;cases hg
  rw [aG e2]at e;obtain⟨x,ws2,olds,sz,a1,a2,a3,a4,a5,a6⟩:=s.iD j vs2 t2 n e;have:x≠b:=fun e3=>e2 (s.inj j i b (.inr ⟨vs2,t2,n,n,e,e3▸a1⟩) hb);exact⟨x,ws2,olds,sz,a1,a2,a3,by rw [iV this];exact a4,a5.mono (.refl c) fr,a6⟩
 ·obtain⟨N,hN⟩:=s.room
  refine⟨N,fun j hj=>?_⟩;obtain⟨a1,a2,a3⟩:=hN j hj;have:j≠i:=fun e=>by subst e;rw [h0]at a1;cases a1
  exact⟨by rw [aG this];exact a1,a2,a3⟩
 ·intro j vs2 t2 n m x e e3
  have e2:j≠i:=fun e2=>by subst e2;rw [upd_same]at e;injection e with e;subst e;cases hg
  rw [aG e2]at e;exact s.Gb j vs2 t2 n m x e e3
 ·intro j vs2 t2 n x ws' e' olds e e3 e4
  have e2:j≠i:=fun e2=>by subst e2;rw [upd_same]at e;injection e with e;subst e;cases hg
  rw [aG e2]at e;have:x≠b:=fun e5=>e2 (s.inj j i b (.inr ⟨vs2,t2,n,n,e,e5▸e3⟩) hb);rw [iV this]at e4;exact s.old j vs2 t2 n x ws' e' olds e e3 e4
theorem VS.setRow (s:VS P B Sb c h S){i b:Nat}{vs vs':List V}{t:TypeId} (h0:h i=some (.row vs t)) (h1:c.Zz i=some b){ws':List Value} (hv:jQ c S (dB B c h) vs' ws'):
 VS P B Sb c (upd h i (.row vs' t)) (S.set b (.cells ws' t .exact))/\uN (dB B c h) S (S.set b (.cells ws' t .exact)) (dB B c (upd h i (.row vs' t))):=
 s.Gh h0 rfl h1 (o:= .row vs' t) rfl fun _ _ f=>⟨ws',rfl,hv.mono (.refl c) f⟩
theorem VS.drop (s:VS P B Sb c h S) (l:dL h' h):VS P B Sb c h' S/\uN (dB B c h) S S (dB B c h'):=by
 have OD:∀j x,pM c h' j x->pM c h j x:=by
  intro j x k;rcases k with ⟨o,e1,eg,e2⟩ | ⟨vs2,t2,n,m,e1,e2⟩
  ·exact .inl ⟨o,l _ _ e1,eg,e2⟩
  ·exact .inr ⟨vs2,t2,n,m,l _ _ e1,e2⟩
 have fr:uN (dB B c h) S S (dB B c h'):=by
  refine⟨Nat.le_refl _,fun _ _ _=>rfl,fun x k=>?_⟩;rcases k with k | ⟨j,k⟩
  ·exact .inl (.inl k)
  ·exact .inl (.inr ⟨j,OD j x k⟩)
 refine⟨⟨s.base,s.bB,fun i o e eg=>?_,fun i vs t n e=>?_,fun j k x l1 l2=>s.inj j k x (OD j x l1) (OD k x l2),s.Gs,?_,s.JT,fun i vs t n m b e e3=>s.Gb i vs t n m b (l _ _ e) e3,fun i vs t n b ws e' olds e e3 e4=>s.old i vs t n b ws e' olds (l _ _ e) e3 e4⟩,fr⟩
 ·obtain⟨b,ws,a1,a2,a3,a4,a5⟩:=s.ob i o (l _ _ e) eg
  exact⟨b,ws,a1,a2,a3,a4,a5.mono (.refl c) fr⟩
 ·obtain⟨b,ws,olds,sz,a1,a2,a3,a4,a5,a6⟩:=s.iD i vs t n (l _ _ e)
  exact⟨b,ws,olds,sz,a1,a2,a3,a4,a5.mono (.refl c) fr,a6⟩
 ·obtain⟨N,hN⟩:=s.room
  refine⟨N,fun j hj=>?_⟩;obtain⟨a1,a2,a3⟩:=hN j hj;refine⟨?_,a2,a3⟩;cases e:h' j with
  | none=>rfl
  | some o=>rw [l _ _ e]at a1;cases a1
theorem VS.frz (s:VS P B Sb c h S) (l:dL h' h){v:V}{x:Dt} (k:RQ h' h v x):∀{w:Value},fB c S (dB B c h) v w->FO S (dB B c h') x w:=by
 have fr:=(s.drop l).2
 have dead:∀{i b:Nat},pM c h i b->h' i=none->¬dB B c h' b:=by
  intro i b l1 hn l2;rcases l2 with l2 | ⟨j,l2⟩
  ·have:=s.bB b l2;have:=(s.bd l1).1;omega
  ·have l3:pM c h j b:=by
    rcases l2 with ⟨o,e1,eg,e2⟩ | ⟨vs2,t2,n,m,e1,e2⟩
    ·exact .inl ⟨o,l _ _ e1,eg,e2⟩
    ·exact .inr ⟨vs2,t2,n,m,l _ _ e1,e2⟩
   have e:=s.inj i j b l1 l3;subst e;rcases l2 with ⟨o,e1,eg,e2⟩ | ⟨vs2,t2,n,m,e1,e2⟩<;>(rw [hn]at e1;cases e1)
 induction k with
 | int=>intro w q;cases q;exact .int
 | bool=>intro w q;cases q;exact .bool
 | str=>intro w q;cases q;exact .str
 | list=>intro w q;cases q with | list ht hd=>exact hd.mono fr
 | nil=>intro w q;cases q;exact .nil
 | @acc i n vs t cs e hn hl hr ih=>
  intro w q;cases q with
  | acc q=>
   obtain⟨b,ws,olds,sz,a1,a2,a3,a4,a5,a6⟩:=s.iD i vs t n e;rw [a1]at q;injection q with q;subst q;refine .row rfl a3 (dead (.inr ⟨vs,t,n,n,e,a1⟩) hn) a4 (by have:=a5.len;omega) (Nat.le_refl _) fun j x v b1 b2=>?_;rw [Nat.zero_add]at b2;have hj:j<vs.length:=by have:=(List.getElem?_eq_some_iff.1 b1).1;omega
   exact ih j vs[j] x (List.getElem?_eq_getElem hj) b1 (a5.rd j _ v (List.getElem?_eq_getElem hj) b2)
 | @FN i n o k cc vs t cs e hn hc hl hr ih=>
  intro w q;cases q with
  | FN q=>
   obtain⟨b,ws,olds,sz,a1,a2,a3,a4,a5,a6⟩:=s.iD i vs t n e;rw [a1]at q;injection q with q;injection q with q;injection q with q;injection q with q;subst q;refine .row rfl a3 (dead (.inr ⟨vs,t,n,n,e,a1⟩) hn) a4 (by have:=a5.len;omega) hc fun j x v b1 b2=>?_;have hj:o+j<vs.length:=by have:=(List.getElem?_eq_some_iff.1 b1).1;omega
   exact ih j vs[o+j] x (List.getElem?_eq_getElem hj) b1 (a5.rd (o+j) _ v (List.getElem?_eq_getElem hj) b2)
 | @own i o n cc vs t cs e hn hc hl hr ih=>
  intro w q;cases q with
  | own q=>
   obtain⟨b,ws,a1,a2,a3,a4,a5⟩:=s.row i vs t e;rw [a1]at q;injection q with q;subst q;refine .row rfl a3 (dead (.inl ⟨_,e,rfl,a1⟩) hn) a4 (by have:=a5.len;omega) hc fun j x v b1 b2=>?_;have hj:o+j<vs.length:=by have:=(List.getElem?_eq_some_iff.1 b1).1;omega
   exact ih j vs[o+j] x (List.getElem?_eq_getElem hj) b1 (a5.rd (o+j) _ v (List.getElem?_eq_getElem hj) b2)
theorem VS.names (s:VS P B Sb c h S) (ws:List Value):∃(d:Cx) (O:Nat->Tag),c.le d/\VS P B Sb d h S/\dB B d h=dB B c h/\∀(k:Nat) (w:Value),ws[k]? =some w->KW d S (dB B d h) (O k) w:=by
 obtain⟨M,hM⟩:=s.JT
 let d:Cx:=⟨c.Zz,c.G,fun k=>if k<M then c.Yz k else ws[k-M]?,c.n0⟩
 have le:c.le d:=by
  refine⟨fun _ _ e=>e,fun _ _ _ e=>e,fun k v e=>?_,rfl⟩;show(if k<M then c.Yz k else ws[k-M]?)=some v;by_cases hk:k<M
  ·rw [if_pos hk];exact e
  ·rw [hM k (by omega)]at e;cases e
 have fr:uN (dB B c h) S S (dB B d h):=⟨Nat.le_refl _,fun _ _ _=>rfl,fun _ k=> .inl k⟩;refine⟨d,fun k=> .root (M+k),le,⟨s.base,s.bB,fun i o e eg=>?_,fun i vs t n e=>?_,s.inj,s.Gs,s.room,⟨M+ws.length,fun k hk=>?_⟩,s.Gb,s.old⟩,rfl,fun k w e=> .root ?_⟩
 ·obtain⟨b,ws,a1,a2,a3,a4,a5⟩:=s.ob i o e eg
  exact⟨b,ws,a1,a2,a3,a4,a5.mono le fr⟩
 ·obtain⟨b,ws,olds,sz,a1,a2,a3,a4,a5,a6⟩:=s.iD i vs t n e
  exact⟨b,ws,olds,sz,a1,a2,a3,a4,a5.mono le fr,a6⟩
 ·show(if k<M then c.Yz k else ws[k-M]?)=none
  rw [if_neg (by omega),List.getElem?_eq_none (by omega)]
 ·show(if M+k<M then c.Yz (M+k)else ws[M+k-M]?)=some w
  rw [if_neg (by omega),Nat.add_sub_cancel_left];exact e
theorem VS.Ka (s:VS P B Sb c h S){i:Nat} (h0:h i=none) (h1:c.Zz i=none) (h2:∀n,c.G i n=none){vs:List V}{ws:List Value}{t:TypeId}{sz n:Nat} (hs:bQ P t=some sz) (hn:vs.length=n*sz) (hv:jQ c S (dB B c h) vs ws):
 let w:Value:= .slice (some ⟨S.n,0,some 0⟩) n n
 VS P B Sb (c.putG i n w) (upd h i (.iD vs t n)) (S.new (.cells ws t (.grown [])))/\c.le (c.putG i n w)/\uN (dB B c h) S (S.new (.cells ws t (.grown []))) (dB B (c.putG i n w) (upd h i (.iD vs t n)))/\(c.putG i n w).G i n=some w:=by
 intro w;have le:=Cx.putG_le (c:=c) (i:=i) (n:=n) (w:=w) (h2 n)
 have OD:∀j b,pM (c.putG i n w) (upd h i (.iD vs t n)) j b->(j=i/\b=S.n)\/(j≠i/\pM c h j b):=by
  intro j b l;by_cases e:j=i
  ·subst e
   rcases l with ⟨o',e1,eg,e2⟩ | ⟨vs',t',n',m,e1,e2⟩
   ·rw [upd_same]at e1;injection e1 with e1;subst e1;cases eg
   ·have e2:(if j=j/\m=n then some w else c.G j m)=_:=e2
    by_cases hm:m=n
    ·rw [if_pos ⟨rfl,hm⟩]at e2
     injection e2 with e2;injection e2 with e2;injection e2 with e2;injection e2 with e2;exact .inl ⟨rfl,e2.symm⟩
    ·rw [if_neg (fun x=>hm x.2),h2]at e2;cases e2
  ·refine .inr ⟨e,?_⟩
   rcases l with ⟨o',e1,eg,e2⟩ | ⟨vs',t',n',m,e1,e2⟩
   ·rw [aG e]at e1
    exact .inl ⟨o',e1,eg,e2⟩
   ·rw [aG e]at e1
    have e2:(if j=i/\m=n then some w else c.G j m)=_:=e2;rw [if_neg (fun x=>e x.1)]at e2;exact .inr ⟨vs',t',n',m,e1,e2⟩
 have fr:uN (dB B c h) S (S.new (.cells ws t (.grown []))) (dB B (c.putG i n w) (upd h i (.iD vs t n))):=by
  refine⟨Nat.le_succ _,fun j hj _=>fM (Nat.ne_of_lt hj),fun b l=>?_⟩;rcases l with l | ⟨j,l⟩
  ·exact .inl (.inl l)
  ·rcases OD j b l with ⟨_,e⟩ | ⟨_,l⟩
   ·exact .inr (Nat.le_of_eq e.symm)
   ·exact .inl (.inr ⟨j,l⟩)
 refine⟨⟨s.base.trans (.new S _),s.bB,?_,?_,?_,?_,?_,s.JT,?_,?_⟩,le,fr,if_pos ⟨rfl,rfl⟩⟩
 ·intro j o' e eg
  have e2:j≠i:=fun e2=>by subst e2;rw [upd_same]at e;injection e with e;subst e;cases eg
  rw [aG e2]at e;obtain⟨b,ws',a1,a2,a3,a4,a5⟩:=s.ob j o' e eg;exact⟨b,ws',a1,a2,Nat.lt_succ_of_lt a3,by rw [fM (by omega)];exact a4,a5.mono le fr⟩
 ·intro j vs' t' m e
  by_cases e2:j=i
  ·subst e2
   rw [upd_same]at e;injection e with e;injection e with e3 e4 e5;subst e3 e4 e5;refine⟨S.n,ws,[],sz,if_pos ⟨rfl,rfl⟩,s.base.n,Nat.lt_succ_self _,oY,hv.mono le fr,hs,hn,fun m hm=>?_⟩;show(if j=j/\m=n then some w else c.G j m)=none;rw [if_neg (fun x=>by omega)];exact h2 m
  ·rw [aG e2]at e
   obtain⟨b,ws',olds,sz',a1,a2,a3,a4,a5,a6,a7,a8⟩:=s.iD j vs' t' m e;refine⟨b,ws',olds,sz',le.G _ _ _ a1,a2,Nat.lt_succ_of_lt a3,by rw [fM (by omega)];exact a4,a5.mono le fr,a6,a7,fun q hq=>?_⟩;show(if j=i/\q=n then some w else c.G j q)=none;rw [if_neg (fun x=>e2 x.1)];exact a8 q hq
 ·intro j k b l1 l2
  rcases OD j b l1 with ⟨e1,e2⟩ | ⟨e1,l1⟩
  ·rcases OD k b l2 with ⟨e3,e4⟩ | ⟨e3,l2⟩
   ·rw [e1,e3]
   ·have:=(s.bd l2).2;omega
  ·rcases OD k b l2 with ⟨e3,e4⟩ | ⟨e3,l2⟩
   ·have:=(s.bd l1).2;omega
   ·exact s.inj j k b l1 l2
 ·intro j m u e
  have e:(if j=i/\m=n then some w else c.G j m)=some u:=e;by_cases e2:j=i/\m=n
  ·rw [if_pos e2]at e;injection e with e;exact⟨S.n,by rw [<-e,e2.2]⟩
  ·rw [if_neg e2]at e;exact s.Gs j m u e
 ·obtain⟨N,hN⟩:=s.room
  refine⟨max N (i+1),fun j hj=>?_⟩;obtain⟨a1,a2,a3⟩:=hN j (by omega);exact⟨by rw [aG (by omega)];exact a1,a2,fun m=>by show(if j=i/\m=n then some w else c.G j m)=none;rw [if_neg (fun x=>by omega)];exact a3 m⟩
 ·intro j vs' t' n' m b e e3
  have e3:(if j=i/\m=n then some w else c.G j m)=_:=e3;by_cases e2:j=i/\m=n
  ·rw [if_pos e2]at e3
   injection e3 with e3;injection e3 with e3;injection e3 with e3;injection e3 with e3;rw [<-e3];exact⟨s.base.n,Nat.lt_succ_self _⟩
  ·rw [if_neg e2]at e3
   by_cases e4:j=i
   ·have e5:=e4▸h2 m;rw [e5]at e3;cases e3
   ·rw [aG e4]at e
    obtain⟨q1,q2⟩:=s.Gb j vs' t' n' m b e e3;exact⟨q1,Nat.lt_succ_of_lt q2⟩
 ·intro j vs' t' n' b ws' e' olds e e3 e5 x hx
  have e3:(if j=i/\n'=n then some w else c.G j n')=_:=e3;by_cases e4:j=i
  ·subst e4
   by_cases e6:n'=n
   ·rw [if_pos ⟨rfl,e6⟩]at e3
    injection e3 with e3;injection e3 with e3;injection e3 with e3;injection e3 with e3;rw [<-e3,oY]at e5;injection e5 with e5;injection e5 with _ _ e5;injection e5 with e5;rw [<-e5]at hx;cases hx
   ·rw [if_neg (fun x=>e6 x.2),h2]at e3;cases e3
  ·rw [if_neg (fun x=>e4 x.1)]at e3
   rw [aG e4]at e;rw [fM (by have:=(s.Gb j vs' t' n' n' b e e3).2;omega)]at e5;obtain⟨m,hm⟩:=s.old j vs' t' n' b ws' e' olds e e3 e5 x hx;exact⟨m,le.G _ _ _ hm⟩
theorem VS.aA1 (s:VS P B Sb c h S){i n m b:Nat}{vs nv:List V}{t:TypeId}{sz:Nat}{ws nw:List Value}{olds:List Nat} (h0:h i=some (.iD vs t n)) (hb:c.G i n=some (.slice (some ⟨b,0,some 0⟩) n n)) (ho:S.obj b=some (.cells ws t (.grown olds))) (hs:bQ P t=some sz)
 (hn:nv.length=m*sz) (hm:0<m) (hvs:vs.length=n*sz) (hvw:jQ c S (dB B c h) vs ws) (hv:jQ c S (dB B c h) nv nw):
 let w:Value:= .slice (some ⟨S.n,0,some 0⟩) (n+m) (n+m)
 let S':=(S.set b (.cells ws t .stale)).new (.cells (ws++nw) t (.grown (b::olds)))
 VS P B Sb (c.putG i (n+m) w) (upd h i (.iD (vs++nv) t (n+m))) S'/\c.le (c.putG i (n+m) w)/\uN (dB B c h) S S' (dB B (c.putG i (n+m) w) (upd h i (.iD (vs++nv) t (n+m))))/\(c.putG i (n+m) w).G i (n+m)=some w:=by
 intro w S';obtain⟨b',_,_,_,q1,_,_,_,_,_,_,q8⟩:=s.iD i vs t n h0;have hlb:pM c h i b:= .inr ⟨vs,t,n,n,h0,hb⟩;obtain⟨g1,g2⟩:=s.bd hlb;have le:=Cx.putG_le (c:=c) (i:=i) (n:=n+m) (w:=w) (q8 _ (by omega));have hSn:(S.set b (.cells ws t .stale)).n=S.n:=rfl
 have OD:∀j x,pM (c.putG i (n+m) w) (upd h i (.iD (vs++nv) t (n+m))) j x->(j=i/\x=S.n)\/pM c h j x:=by
  intro j x l;by_cases e:j=i
  ·subst e
   rcases l with ⟨o',e1,eg,e2⟩ | ⟨vs',t',n',k,e1,e2⟩
   ·rw [upd_same]at e1;injection e1 with e1;subst e1;cases eg
   ·have e2:(if j=j/\k=n+m then some w else c.G j k)=_:=e2
    by_cases hk:k=n+m
    ·rw [if_pos ⟨rfl,hk⟩]at e2
     injection e2 with e2;injection e2 with e2;injection e2 with e2;injection e2 with e2;exact .inl ⟨rfl,e2.symm⟩
    ·rw [if_neg (fun x=>hk x.2)]at e2
     exact .inr (.inr ⟨vs,t,n,k,h0,e2⟩)
  ·refine .inr ?_
   rcases l with ⟨o',e1,eg,e2⟩ | ⟨vs',t',n',k,e1,e2⟩
   ·rw [aG e]at e1
    exact .inl ⟨o',e1,eg,e2⟩
   ·rw [aG e]at e1
    have e2:(if j=i/\k=n+m then some w else c.G j k)=_:=e2;rw [if_neg (fun x=>e x.1)]at e2;exact .inr ⟨vs',t',n',k,e1,e2⟩
 have fr:uN (dB B c h) S S' (dB B (c.putG i (n+m) w) (upd h i (.iD (vs++nv) t (n+m)))):=by
  refine⟨Nat.le_succ _,fun j hj hc=>?_,fun x l=>?_⟩
  ·show((S.set b _).new _).obj j=_
   rw [fM (by rw [hSn];omega),iV (show j≠b from fun e=>hc (.inr ⟨i,e▸hlb⟩))]
  ·rcases l with l | ⟨j,l⟩
   ·exact .inl (.inl l)
   ·rcases OD j x l with ⟨_,e⟩ | l
    ·exact .inr (Nat.le_of_eq e.symm)
    ·exact .inl (.inr ⟨j,l⟩)
 have oth:∀j x,j≠i->pM c h j x->S'.obj x=S.obj x:=fun j x e l=>by
  have:x≠b:=fun e3=>e (s.inj j i b (e3▸l) hlb);show((S.set b _).new _).obj x=_;rw [fM (by rw [hSn];have:=(s.bd l).2;omega),iV this]
 refine⟨⟨⟨Nat.le_succ_of_le s.base.n,fun j hj=>?_⟩,s.bB,?_,?_,?_,?_,?_,s.JT,?_,?_⟩,le,fr,if_pos ⟨rfl,rfl⟩⟩
 ·have:=s.base.n
  show((S.set b _).new _).obj j=_;rw [fM (by rw [hSn];omega),iV (by omega)];exact s.base.same j hj
 ·intro j o' e eg
  have e2:j≠i:=fun e2=>by subst e2;rw [upd_same]at e;injection e with e;subst e;cases eg
  rw [aG e2]at e;obtain⟨x,ws',a1,a2,a3,a4,a5⟩:=s.ob j o' e eg;exact⟨x,ws',a1,a2,Nat.lt_succ_of_lt a3,by rw [oth j x e2 (.inl ⟨o',e,eg,a1⟩)];exact a4,a5.mono le fr⟩
 ·intro j vs' t' k e
  by_cases e2:j=i
  ·subst e2
   rw [upd_same]at e;injection e with e;injection e with e3 e4 e5;subst e3 e4 e5;refine⟨S.n,ws++nw,b::olds,sz,if_pos ⟨rfl,rfl⟩,s.base.n,Nat.lt_succ_self _,?_,(hvw.app hv).mono le fr,hs,by rw [List.length_append,hvs,hn,Nat.add_mul],fun q hq=>?_⟩
   ·show((S.set b _).new _).obj (S.set b (.cells ws t .stale)).n=_
    exact oY
   ·show(if j=j/\q=n+m then some w else c.G j q)=none
    rw [if_neg (fun x=>by omega)];exact q8 q (by omega)
  ·rw [aG e2]at e
   obtain⟨x,ws',olds',sz',a1,a2,a3,a4,a5,a6,a7,a8⟩:=s.iD j vs' t' k e;refine⟨x,ws',olds',sz',le.G _ _ _ a1,a2,Nat.lt_succ_of_lt a3,by rw [oth j x e2 (.inr ⟨vs',t',k,k,e,a1⟩)];exact a4,a5.mono le fr,a6,a7,fun q hq=>?_⟩;show(if j=i/\q=n+m then some w else c.G j q)=none;rw [if_neg (fun x=>e2 x.1)];exact a8 q hq
 ·intro j k x l1 l2
  rcases OD j x l1 with ⟨e1,e2⟩ | l1
  ·rcases OD k x l2 with ⟨e3,e4⟩ | l2
   ·rw [e1,e3]
   ·have:=(s.bd l2).2;omega
  ·rcases OD k x l2 with ⟨e3,e4⟩ | l2
   ·have:=(s.bd l1).2;omega
   ·exact s.inj j k x l1 l2
 ·intro j k u e
  have e:(if j=i/\k=n+m then some w else c.G j k)=some u:=e;by_cases e2:j=i/\k=n+m
  ·rw [if_pos e2]at e;injection e with e;exact⟨S.n,by rw [<-e,e2.2]⟩
  ·rw [if_neg e2]at e;exact s.Gs j k u e
 ·obtain⟨N,hN⟩:=s.room
  refine⟨max N (i+1),fun j hj=>?_⟩;obtain⟨a1,a2,a3⟩:=hN j (by omega);exact⟨by rw [aG (by omega)];exact a1,a2,fun q=>by show(if j=i/\q=n+m then some w else c.G j q)=none;rw [if_neg (fun x=>by omega)];exact a3 q⟩
 ·intro j vs' t' n' k x e e3
  rcases OD j x (.inr ⟨vs',t',n',k,e,e3⟩)with ⟨_,e4⟩ | l
  ·rw [e4];exact⟨s.base.n,Nat.lt_succ_self _⟩
  ·obtain⟨q1,q2⟩:=s.bd l
   exact⟨q1,Nat.lt_succ_of_lt q2⟩
 ·intro j vs' t' n' x ws' e' olds' e e3 e5 y hy
  have e3:(if j=i/\n'=n+m then some w else c.G j n')=_:=e3;by_cases e4:j=i
  ·subst e4
   rw [upd_same]at e;injection e with e;injection e with _ _ e6;rw [if_pos ⟨rfl,e6.symm⟩]at e3;injection e3 with e3;injection e3 with e3;injection e3 with e3;injection e3 with e3
   have e7:S'.obj S.n=some (.cells (ws++nw) t (.grown (b::olds))):=by
    show((S.set b _).new _).obj (S.set b (.cells ws t .stale)).n=_;exact oY
   rw [<-e3,e7]at e5;injection e5 with e5;injection e5 with _ _ e5;injection e5 with e5;rw [<-e5]at hy;rcases List.mem_cons.1 hy with rfl | hy
   ·exact⟨n,le.G _ _ _ hb⟩
   ·obtain⟨q,hq⟩:=s.old j vs t n b ws t olds h0 hb ho y hy
    exact⟨q,le.G _ _ _ hq⟩
  ·rw [if_neg (fun x=>e4 x.1)]at e3
   rw [aG e4]at e;rw [oth j x e4 (.inr ⟨vs',t',n',n',e,e3⟩)]at e5;obtain⟨q,hq⟩:=s.old j vs' t' n' x ws' e' olds' e e3 e5 y hy;exact⟨q,le.G _ _ _ hq⟩
theorem VS.Wk (s:VS P B Sb c h S){i n b:Nat}{vs vs':List V}{t:TypeId}{ws ws':List Value}{olds ol kl:List Nat} (hol:∀x∈ol,x∈olds) (hkl:∀x∈kl,x∈olds) (h0:h i=some (.iD vs t n)) (hb:c.G i n=some (.slice (some ⟨b,0,some 0⟩) n n)) (ho:S.obj b=some (.cells ws t (.grown olds))) (hl:vs'.length=vs.length) (hv:jQ c S (dB B c h) vs' ws'){S':St}
 (hn:S'.n=S.n) (hs:∀j,S'.obj j=if j=b then some (.cells ws' t (.grown ol))else if j∈kl then some .dead else S.obj j):
 VS P B Sb c (upd h i (.iD vs' t n)) S'/\uN (dB B c h) S S' (dB B c (upd h i (.iD vs' t n))):=by
 have hlb:pM c h i b:= .inr ⟨vs,t,n,n,h0,hb⟩
 have hold:∀x∈olds,pM c h i x:=fun x hx=>by
  obtain⟨m,hm⟩:=s.old i vs t n b ws t olds h0 hb ho x hx;exact .inr ⟨vs,t,n,m,h0,hm⟩
 have OD:∀j x,pM c (upd h i (.iD vs' t n)) j x->pM c h j x:=by
  intro j x l;by_cases e:j=i
  ·subst e
   rcases l with ⟨o',e1,eg,e2⟩ | ⟨vs2,t2,n',m,e1,e2⟩
   ·rw [upd_same]at e1;injection e1 with e1;subst e1;cases eg
   ·exact .inr ⟨vs,t,n,m,h0,e2⟩
  ·rcases l with ⟨o',e1,eg,e2⟩ | ⟨vs2,t2,n',m,e1,e2⟩
   ·rw [aG e]at e1;exact .inl ⟨o',e1,eg,e2⟩
   ·rw [aG e]at e1;exact .inr ⟨vs2,t2,n',m,e1,e2⟩
 have same:∀x,¬pM c h i x->S'.obj x=S.obj x:=fun x hx=>by
  rw [hs,if_neg (fun e:x=b=>hx (e▸hlb)),if_neg (fun e=>hx (hold x (hkl x e)))]
 have oth:∀j x,j≠i->pM c h j x->S'.obj x=S.obj x:=fun j x e l=>same x fun l2=>e (s.inj j i x l l2)
 have fr:uN (dB B c h) S S' (dB B c (upd h i (.iD vs' t n))):=by
  refine⟨Nat.le_of_eq hn.symm,fun j _ hc=>same j fun l=>hc (.inr ⟨i,l⟩),fun x l=>?_⟩;rcases l with l | ⟨j,l⟩
  ·exact .inl (.inl l)
  ·exact .inl (.inr ⟨j,OD j x l⟩)
 refine⟨⟨⟨by rw [hn];exact s.base.n,fun j hj=>?_⟩,s.bB,?_,?_,fun j k x l1 l2=>s.inj j k x (OD j x l1) (OD k x l2),s.Gs,?_,s.JT,?_,?_⟩,fr⟩
 ·rw [same j fun l=>by have:=(s.bd l).1;omega];exact s.base.same j hj
 ·intro j o' e eg
  have e2:j≠i:=fun e2=>by subst e2;rw [upd_same]at e;injection e with e;subst e;cases eg
  rw [aG e2]at e;obtain⟨x,a',a1,a2,a3,a4,a5⟩:=s.ob j o' e eg;exact⟨x,a',a1,a2,by rw [hn];exact a3,by rw [oth j x e2 (.inl ⟨o',e,eg,a1⟩)];exact a4,a5.mono (.refl c) fr⟩
 ·intro j vs2 t2 k e
  by_cases e2:j=i
  ·subst e2
   rw [upd_same]at e;injection e with e;injection e with e3 e4 e5;subst e3 e4 e5;obtain⟨x,ws2,olds',sz',a1,a2,a3,a4,a5,a6,a7,a8⟩:=s.iD j vs t n h0;rw [hb]at a1;injection a1 with a1;injection a1 with a1;injection a1 with a1;injection a1 with a1;subst a1;exact⟨b,ws',ol,sz',hb,a2,by rw [hn];exact a3,by rw [hs,if_pos rfl],hv.mono (.refl c) fr,a6,by rw [hl];exact a7,a8⟩
  ·rw [aG e2]at e
   obtain⟨x,ws2,olds',sz',a1,a2,a3,a4,a5,a6⟩:=s.iD j vs2 t2 k e;exact⟨x,ws2,olds',sz',a1,a2,by rw [hn];exact a3,by rw [oth j x e2 (.inr ⟨vs2,t2,k,k,e,a1⟩)];exact a4,a5.mono (.refl c) fr,a6⟩
 ·obtain⟨N,hN⟩:=s.room
  refine⟨N,fun j hj=>?_⟩;obtain⟨a1,a2,a3⟩:=hN j hj;have:j≠i:=fun e=>by subst e;rw [h0]at a1;cases a1
  exact⟨by rw [aG this];exact a1,a2,a3⟩
 ·intro j vs2 t2 k m x e e3
  rw [hn];exact s.bd (OD j x (.inr ⟨vs2,t2,k,m,e,e3⟩))
 ·intro j vs2 t2 k x ws2 e' olds' e e3 e5 y hy
  by_cases e2:j=i
  ·subst e2
   rw [upd_same]at e;injection e with e;injection e with _ _ e6;subst e6;rw [hb]at e3;injection e3 with e3;injection e3 with e3;injection e3 with e3;injection e3 with e3;subst e3;rw [hs,if_pos rfl]at e5;injection e5 with e5;injection e5 with _ _ e5;injection e5 with e5;rw [<-e5]at hy;exact s.old j vs t n b ws t olds h0 hb ho y (hol y hy)
  ·rw [aG e2]at e
   rw [oth j x e2 (.inr ⟨vs2,t2,k,k,e,e3⟩)]at e5;exact s.old j vs2 t2 k x ws2 e' olds' e e3 e5 y hy
end
section
variable{α:Type}
theorem Gi (t:Tr α):∀(n:Nat) (k:α->Prop),Qr t n k->∃x,t.get n=some x/\k x:=by
 induction t with
 | leaf=>intro n k h;cases h
 | node v l r ihl ihr=>
  intro n k h;cases n with
  | zero=>
   cases v with
   | none=>cases h
   | some x=>exact⟨x,rfl,h⟩
  | succ p=>
   have h:lX (Nat.mod p 2) (Qr l (Nat.div p 2) k) (fun _=>Qr r (Nat.div p 2) k):=h;have hm:p%2=0\/p%2=1:=by omega
   rcases hm with hm | hm
   ·have:Nat.mod p 2=0:=hm
    rw [this]at h;obtain⟨x,e1,e2⟩:=ihl _ _ (show Qr l (Nat.div p 2) k from h);refine⟨x,?_,e2⟩;have e3:(p+1) / 2=Nat.div p 2:=by show _=p / 2;omega
    simp only [Tr.get,Nat.add_eq_zero_iff,Nat.one_ne_zero,and_false,if_false,show(p+1)%2=1 by omega,if_true,e3];exact e1
   ·have:Nat.mod p 2=0+1:=hm
    rw [this]at h;obtain⟨x,e1,e2⟩:=ihr _ _ (show Qr r (Nat.div p 2) k from h);refine⟨x,?_,e2⟩;have e3:(p+1) / 2-1=Nat.div p 2:=by show _=p / 2;omega
    simp only [Tr.get,Nat.add_eq_zero_iff,Nat.one_ne_zero,and_false,if_false,show ¬(p+1)%2=1 by omega,e3];exact e1
theorem Wl (t:Tr α){k:Prop}:∀(n:Nat),Qt t n k->t.get n=none/\k:=by
 induction t with
 | leaf=>intro n h;exact⟨rfl,h⟩
 | node v l r ihl ihr=>
  intro n h;cases n with
  | zero=>
   cases v with
   | none=>exact⟨rfl,h⟩
   | some x=>cases h
  | succ p=>
   have h:lX (Nat.mod p 2) (Qt l (Nat.div p 2) k) (fun _=>Qt r (Nat.div p 2) k):=h;have hm:p%2=0\/p%2=1:=by omega
   rcases hm with hm | hm
   ·have:Nat.mod p 2=0:=hm
    rw [this]at h;obtain⟨e1,e2⟩:=ihl _ (show Qt l (Nat.div p 2) k from h);refine⟨?_,e2⟩;have e3:(p+1) / 2=Nat.div p 2:=by show _=p / 2;omega
    simp only [Tr.get,Nat.add_eq_zero_iff,Nat.one_ne_zero,and_false,if_false,show(p+1)%2=1 by omega,if_true,e3];exact e1
   ·have:Nat.mod p 2=0+1:=hm
    rw [this]at h;obtain⟨e1,e2⟩:=ihr _ (show Qt r (Nat.div p 2) k from h);refine⟨?_,e2⟩;have e3:(p+1) / 2-1=Nat.div p 2:=by show _=p / 2;omega
    simp only [Tr.get,Nat.add_eq_zero_iff,Nat.one_ne_zero,and_false,if_false,show ¬(p+1)%2=1 by omega,e3];exact e1
theorem aA2 (t:Tr α):∀(n:Nat) (k:Tr α->Prop),Wa t n k=k (t.del n):=by
 induction t with
 | leaf=>intro n k;rfl
 | node v l r il ir=>
  intro n k;cases n with
  | zero=>rfl
  | succ p=>
   show lX (p%2) (Wa l (p / 2) fun c=>k (.node v c r)) (fun _=>Wa r (p / 2) fun c=>k (.node v l c))=_;rw [il,ir];have hsucc:p+1≠0:=by omega
   simp only [Tr.del,if_neg hsucc];rcases Nat.mod_two_eq_zero_or_one p with h | h
   ·rw [h,if_pos (by omega),show(p+1) / 2=p / 2 by omega];rfl
   ·rw [h,if_neg (by omega),show(p+1) / 2-1=p / 2 by omega];rfl
theorem aA3 (x:α):∀(f:Nat) (t:Tr α) (n:Nat) (k:Tr α->Prop),Qs x f t n k=k (Tr.yF x f t n):=by
 intro f;induction f with
 | zero=>intro t n k;rfl
 | succ f ih=>
  intro t n k;cases t with
  | leaf=>
   cases n with
   | zero=>rfl
   | succ p=>
    show lX (Nat.mod p 2) (Qs x f .leaf (Nat.div p 2) fun c=>k (.node none c .leaf)) (fun _=>Qs x f .leaf (Nat.div p 2) fun c=>k (.node none .leaf c))=_;rw [ih,ih];have hm:p%2=0\/p%2=1:=by omega
    rcases hm with hm | hm
    ·have:Nat.mod p 2=0:=hm
     rw [this];have e3:(p+1) / 2=Nat.div p 2:=by show _=p / 2;omega
     simp only [Tr.yF,Nat.add_eq_zero_iff,Nat.one_ne_zero,and_false,if_false,show(p+1)%2=1 by omega,if_true,e3];rfl
    ·have:Nat.mod p 2=0+1:=hm
     rw [this];have e3:(p+1) / 2-1=Nat.div p 2:=by show _=p / 2;omega
     simp only [Tr.yF,Nat.add_eq_zero_iff,Nat.one_ne_zero,and_false,if_false,show ¬(p+1)%2=1 by omega,e3];rfl
  | node v l r=>
   cases n with
   | zero=>rfl
   | succ p=>
    show lX (Nat.mod p 2) (Qs x f l (Nat.div p 2) fun c=>k (.node v c r)) (fun _=>Qs x f r (Nat.div p 2) fun c=>k (.node v l c))=_;rw [ih,ih];have hm:p%2=0\/p%2=1:=by omega
    rcases hm with hm | hm
    ·have:Nat.mod p 2=0:=hm
     rw [this];have e3:(p+1) / 2=Nat.div p 2:=by show _=p / 2;omega
     simp only [Tr.yF,Nat.add_eq_zero_iff,Nat.one_ne_zero,and_false,if_false,show(p+1)%2=1 by omega,if_true,e3];rfl
    ·have:Nat.mod p 2=0+1:=hm
     rw [this];have e3:(p+1) / 2-1=Nat.div p 2:=by show _=p / 2;omega
     simp only [Tr.yF,Nat.add_eq_zero_iff,Nat.one_ne_zero,and_false,if_false,show ¬(p+1)%2=1 by omega,e3];rfl
theorem CO{l:List α}{i:Nat}{k:α->Prop} (h:MY l i k):∃a,l[i]? =some a/\k a:=by
 unfold MY at h;split at h
 ·rename_i a e;exact⟨a,e,h⟩
 ·cases h
end
structure RS (c:Cx) (S:St) (C:Nat->Prop) (l:List Nat):Prop where
 n0:c.n0<=S.n
 nd:l.Nodup
 ok:∀d∈l,c.n0<=d/\d<S.n/\¬C d/\S.obj d=some .defers
theorem RS.mono{c d:Cx}{S S':St}{C C':Nat->Prop}{m:List Nat} (k:RS c S C m) (l:c.le d) (f:uN C S S' C'):RS d S' C' m:=by
 refine⟨by rw [l.n0];exact Nat.le_trans k.n0 f.n,k.nd,fun x hx=>?_⟩;obtain⟨h1,h2,h3,h4⟩:=k.ok x hx;refine⟨by rw [l.n0];exact h1,Nat.lt_of_lt_of_le h2 f.n,fun h=>?_,by rw [f.same x h2 h3];exact h4⟩;rcases f.sub _ h with h | h
 ·exact h3 h
 ·omega
structure AR (c:Cx) (S:St) (C:Nat->Prop) (A:VA) (A':aX):Prop where
 n:A.tmps.n=A'.tmps.n
 g:A.g=A'.g
 marks:RS c S C A'.marks
 got:∀i v,A.tmps.t.get i=some v->∃w,A'.tmps.t.get i=some w/\fB c S C v w
 abs:∀i,A.tmps.t.get i=none->A'.tmps.t.get i=none
section
variable{P:Program}{B:Nat->Prop}{Sb:St}{c c' d:Cx}{h h':Hp}{S S':St}{C C':Nat->Prop}
theorem AR.mono{A:VA}{A':aX} (a:AR c S C A A') (l:c.le d) (f:uN C S S' C'):AR d S' C' A A':=
 ⟨a.n,a.g,a.marks.mono l f,fun i v e=>let⟨w,p,q⟩:=a.got i v e;⟨w,p,q.mono l f⟩,a.abs⟩
theorem AR.put{A:VA}{A':aX} (a:AR c S C A A'){i:Nat}{v:V}{w:Value} (hv:fB c S C v w):AR c S C ⟨⟨A.tmps.t.put i v,A.tmps.n⟩,A.g⟩ ⟨A'.tmps.put i w,A'.marks,A'.g⟩:=by
 refine⟨a.n,a.g,a.marks,fun j x e=>?_,fun j e=>?_⟩
 ·have e:(A.tmps.t.put i v).get j=some x:=e
  rw [get_put]at e;show ∃w',(A'.tmps.t.put i w).get j=some w'/\_;rw [get_put];by_cases hj:j=i
  ·rw [if_pos hj]at e ⊢;injection e with e;subst e;exact⟨w,rfl,hv⟩
  ·rw [if_neg hj]at e ⊢;exact a.got j x e
 ·have e:(A.tmps.t.put i v).get j=none:=e
  rw [get_put]at e;show(A'.tmps.t.put i w).get j=none;rw [get_put];by_cases hj:j=i
  ·rw [if_pos hj]at e;cases e
  ·rw [if_neg hj]at e ⊢;exact a.abs j e
theorem vV{A:VA}{A':aX} (a:AR c S C A A'){i:Nat}{k:V->Prop}{k':Value->Bool} (h:Bo A.tmps i k) (hk:∀v w,fB c S C v w->k v->k' w=true):JE A'.tmps i k'=true:=by
 obtain⟨v,e,hv⟩:=Gi _ _ _ h;obtain⟨w,e2,r⟩:=a.got i v e;unfold JE;rw [nF,e2];exact hk v w r hv
theorem IC{v:V}{T:Bn}{i:Nat}{k:Bn->Prop} (h:JR v T i k):i<T.n/\k ⟨T.t.put i v,T.n⟩:=by
 obtain⟨t,n⟩:=T;unfold JR at h;simp only at h;split at h
 ·rename_i hb
  rw [aA3]at h;exact⟨Nat.le_of_ble_eq_true hb,h⟩
 ·cases h
theorem NA{v:Value}{T:Tm}{i:Nat} (hi:i<T.n) (k:Tm->Bool):qH v T i k=k (T.put i v):=by
 unfold qH;rw [show Nat.blt i T.n=true from Nat.ble_eq_true_of_le hi,DQ];rfl
theorem YQ{A:VA}{A':aX} (a:AR c S C A A'){d:Tmp}{v:V}{w:Value} (hv:fB c S C v w){k:VA->Prop}{k':aX->Bool} (h:UJ A d v k) (hk:∀B B',AR c S C B B'->k B->k' B'=true):jO A' (some d) w k'=true:=by
 obtain⟨T,g⟩:=A;obtain⟨h1,h2⟩:=IC (show JR v T d (fun T=>k ⟨T,g⟩)from h);show qH w A'.tmps d (fun ts=>k' ⟨ts,A'.marks,A'.g⟩)=true;rw [NA (by rw [<-a.n];exact h1)];exact hk _ _ (a.put hv) h2
theorem Wm{v:Value}{x:V} (e:ofC v=some x):lP v=true/\fB c S C x v:=by
 unfold ofC at e;split at e
 ·rename_i cs
  split at e
  ·rename_i l hl
   injection e with e;subst e;have hvs:jQ c S C l cs:=IB hl;refine⟨?_,.agg hvs.len hvs.rd⟩;show cs.all bH=true
   have:∀(cs:List Value) (l:List V),KO cs=some l->cs.all bH=true:=by
    intro cs;induction cs with
    | nil=>intro _ _;rfl
    | cons a cs ih=>
     intro l h;unfold KO at h;split at h
     ·rename_i x hx
      split at h
      ·rename_i xs hxs
       simp only [List.all_cons,Gg hx,ih xs hxs,Bool.and_self]
      ·cases h
     ·cases h
   exact this cs l hl
  ·cases e
 ·have hf:=Gg e
  refine⟨?_,Wi e⟩;cases v<;>first | exact hf | (simp [bH]at hf)
theorem bO{A:VA}{A':aX} (a:AR c S C A A'){x:Operand}{k:V->Prop}{k':Value->Bool} (h:(uL x).f A k) (hk:∀v w,fB c S C v w->k v->k' w=true):pT A' x k'=true:=by
 cases x with
 | tmp t=>exact vV a h hk
 | const v=>
  unfold uL at h;cases e:ofC v with
  | none=>simp only [e]at h
  | some d=>
   simp only [e]at h;obtain⟨hf,r⟩:=Wm (c:=c) (S:=S) (C:=C) e;unfold pT;simp only [hf];exact hk d v r h
 | global g=>cases h
 | func f=>exact hk _ _ (.func (a':=[]) (d':=[]) rfl rfl (fun k v w e=>by simp at e) (fun k v w e=>by simp at e)) h
theorem NB{A:VA}{A':aX} (a:AR c S C A A'):∀{xs:List Operand} {k:List V->Prop} {k':List Value->Bool},(Qu xs).f A k->(∀vs ws,jQ c S C vs ws->k vs->k' ws=true)->IR A' xs k'=true:=by
 intro xs;induction xs with
 | nil=>intro k k' h hk;exact hk [] [] .nil h
 | cons x xs ih=>
  intro k k' h hk;have h:(uL x).f A (fun v=>(Qu xs).f A fun vs=>k (v::vs)):=h;refine bO a h fun v w r h=>?_;exact ih h fun vs ws rs h=>hk (v::vs) (w::ws) (.cons r rs) h
theorem VS.one (s:VS P B Sb c h S){v:V}{w:Value} (r:fB c S C v w) (ho:lL v=true):oneCell w=true:=by
 cases r<;>first
  | rfl
  | (simp [lL]at ho;done)
  | (rename_i e;obtain⟨b,rfl⟩:=s.Gs _ _ _ e;rfl)
  | (rename_i ht hd;cases hd<;>rfl)
theorem VS.ones (s:VS P B Sb c h S){vs:List V}{ws:List Value} (r:jQ c S C vs ws) (ho:vs.all lL=true):ws.all oneCell=true:=by
 rw [List.all_eq_true]at ho ⊢;intro w hw;obtain⟨k,hk⟩:=List.getElem?_of_mem hw;have hl:=r.len;have hkl:=(List.getElem?_eq_some_iff.1 hk).1;exact s.one (r.rd k vs[k] w (List.getElem?_eq_getElem (by omega)) hk) (ho _ (List.getElem_mem (by omega)))
theorem GV (O:Tag):∀(l:List Dt) (o k:Nat),(Tl O o l)[k]? =(l[k]?).map fun d=>T (.sub O (o+k)) d:=by
 intro l;induction l with
 | nil=>intro o k;simp [Tl]
 | cons d l ih=>
  intro o k;cases k with
  | zero=>simp [Tl]
  | succ k=>
   simp only [Tl,List.getElem?_cons_succ,ih];rw [show o+1+k=o+(k+1)by omega]
theorem EM (O:Tag):∀(l:List Dt) (o:Nat),(Tl O o l).length=l.length:=by
 intro l;induction l with
 | nil=>intro o;rfl
 | cons d l ih=>intro o;simp [Tl,ih]
theorem PM{O:Tag}{cs:List Dt}{b o n cc:Nat}{sp:Option Nat} (ht:KW c S C O (.slice (some ⟨b,o,sp⟩) n cc)) (hd:FO S C (.list cs n) (.slice (some ⟨b,o,sp⟩) n cc)){k m:Nat} (hk:k+m<=cs.length) (hm:0<m):
 ∃ws e ck,S.obj b=some (.cells ws e ck)/\o+k+m<=ws.length/\jQ c S C (Tl O k ((cs.drop k).take m)) ((ws.drop (o+k)).take m):=by
 cases hd with
 | emp=>simp at hk;omega
 | row hsp hb hC ho hl hn hr=>
  rename_i ws e ck;refine⟨ws,e,ck,ho,by omega,by rw [EM];simp;omega,fun j v w e1 e2=>?_⟩;rw [GV,List.getElem?_take]at e1;rw [List.getElem?_take]at e2;by_cases hj:j<m
  ·rw [if_pos hj,List.getElem?_drop]at e1 e2
   cases ed:cs[k+j]? with
   | none=>rw [ed]at e1;cases e1
   | some x=>
    rw [ed]at e1;injection e1 with e1;subst e1;have hw:ws[o+(k+j)]? =some w:=by rw [<-Nat.add_assoc];exact e2
    exact aDo (hr (k+j) x w ed hw) (.sub ht hb hC ho hw)
  ·rw [if_neg hj]at e2;cases e2
theorem Nk (s:VS P B Sb c h S){a:V}{w:Value} (r:fB c S (dB B c h) a w){Kv:KV}{K:VK} (k:∀v w,fB c S (dB B c h) v w->Kv v h->K w S=true) (hv:aE a h Kv):rLd w S K=true:=by
 unfold aE at hv;split at hv
 ·rename_i i o
  cases r with
  | ptr hZ=>
   split at hv
   ·rename_i vs t e
    obtain⟨v,ev,hv⟩:=CO hv;obtain⟨b,ws,a1,a2,a3,a4,a5⟩:=s.row i vs t e;rw [hZ]at a1;injection a1 with a1;subst a1;obtain⟨u,eu,ru⟩:=a5.get ev;rw [Uw a4 eu];exact k v u ru hv
   ·cases hv
 ·rename_i O cs o
  cases r with
  | @tS _ _ b o0 n cc _ sp ht hd=>
   obtain⟨x,ex,hv⟩:=CO hv;have hlt:=(List.getElem?_eq_some_iff.1 ex).1;obtain⟨ws,e,ck,g1,g2,g3⟩:=PM ht hd (k:=o) (m:=1) (by omega) (by omega);have hw:ws[o0+o]? =some (ws[o0+o]'(by omega)):=List.getElem?_eq_getElem _;rw [Uw g1 hw];refine k _ _ (g3.rd 0 _ _ ?_ ?_) hv
   ·rw [GV,List.getElem?_take,if_pos (by omega),List.getElem?_drop,Nat.add_zero,ex];rfl
   ·rw [List.getElem?_take,if_pos (by omega),List.getElem?_drop,Nat.add_zero];exact hw
 ·rename_i i n o
  cases r with
  | nV hG=>
   split at hv
   ·rename_i vs t m e
    obtain⟨rfl,hv⟩:=hv;obtain⟨v,ev,hv⟩:=CO hv;obtain⟨b,ws,olds,sz,a1,a2,a3,a4,a5,a6⟩:=s.iD i vs t m e;rw [hG]at a1;injection a1 with a1;injection a1 with a1;injection a1 with a1;injection a1 with a1;subst a1;obtain⟨u,eu,ru⟩:=a5.get ev;rw [Uw a4 eu];exact k v u ru hv
   ·cases hv
 ·cases hv
theorem Gj (s:VS P B Sb c h S){n:Nat} (hn:0<n){a:V}{w:Value} (r:fB c S (dB B c h) a w){Kv:KV}{K:VK} (k:∀v w,fB c S (dB B c h) v w->Kv v h->K w S=true) (hv:dK n a h Kv):Uj n w S K=true:=by
 unfold dK at hv;split at hv
 ·rename_i i o
  cases r with
  | ptr hZ=>
   split at hv
   ·rename_i vs t e
    obtain⟨hl,hv⟩:=hv;obtain⟨b,ws,a1,a2,a3,a4,a5⟩:=s.row i vs t e;rw [hZ]at a1;injection a1 with a1;subst a1;have:=a5.len;rw [Jf a4 (by omega)];exact k _ _ (.agg ((a5.drop o).take n).len ((a5.drop o).take n).rd) hv
   ·cases hv
 ·rename_i O cs o
  cases r with
  | @tS _ _ b o0 m cc _ sp ht hd=>
   obtain⟨hl,hv⟩:=hv;obtain⟨ws,e,ck,g1,g2,g3⟩:=PM ht hd hl hn;rw [Jf g1 g2];exact k _ _ (.agg g3.len g3.rd) hv
 ·rename_i i m o
  cases r with
  | nV hG=>
   split at hv
   ·rename_i vs t m' e
    obtain⟨rfl,hl,hv⟩:=hv;obtain⟨b,ws,olds,sz,a1,a2,a3,a4,a5,a6⟩:=s.iD i vs t m' e;rw [hG]at a1;injection a1 with a1;injection a1 with a1;injection a1 with a1;injection a1 with a1;subst a1;have:=a5.len;rw [Jf a4 (by omega)];exact k _ _ (.agg ((a5.drop o).take n).len ((a5.drop o).take n).rd) hv
   ·cases hv
 ·cases hv
theorem EN (s:VS P B Sb c h S){x:V}{w:Value} (r:fB c S C x w){k:List V->Prop} (hv:EC x k):∃vs ws,jQ c S C vs ws/\k vs/\ws.all oneCell=true/\∀K:List Value->Bool,lZ w K=K ws:=by
 unfold EC at hv;split at hv
 ·rename_i cs
  obtain⟨ho,hv⟩:=hv;cases r with
  | agg la ha=>
   rename_i a';have hr:jQ c S C cs a':=⟨la,ha⟩;have:=s.ones hr ho;refine⟨cs,a',hr,hv,this,fun K=>?_⟩;show(match allB oneCell a' with | true=>K a' | false=>false)=_;rw [mQ,this]
 ·cases hv
 ·rename_i h1 h2
  have ho:lL x=true:=by cases x<;>first | rfl | exact absurd rfl (h1 _) | exact absurd rfl (h2 _)
  have:=s.one r ho;exact⟨[x],[w],.cons r .nil,hv,by simp [this],fun K=>Fj this K⟩
theorem UK (s:VS P B Sb c h S){i o b:Nat}{vs cs:List V}{ws:List Value}{t:TypeId} (e:h i=some (.row vs t)) (hZ:c.Zz i=some b) (g:jQ c S (dB B c h) cs ws) (hl:o+cs.length<=vs.length){Kv:Hp->Prop}{K:St->Bool} (k:∀h' S',uN (dB B c h) S S' (dB B c h')->VS P B Sb c h' S'->Kv h'->K S'=true) (hv:Kv (upd h i (.row (splice o cs vs) t))):oW S b o ws K=true:=by
 obtain⟨b',us,a1,a2,a3,a4,a5⟩:=s.row i vs t e;rw [hZ]at a1;injection a1 with a1;subst a1;have l1:=a5.len;have l2:=g.len;unfold oW;rw [zV a4];show oE o ws us (fun vs=>pV S b (.cells vs t .exact) K)=true;rw [sK,if_pos (by omega),fS];obtain⟨s1,s2⟩:=s.setRow e hZ (a5.splice g o);exact k _ _ s2 s1 hv
theorem EO (s:VS P B Sb c h S){i n o b:Nat}{vs cs:List V}{ws:List Value}{t:TypeId} (e:h i=some (.iD vs t n)) (hG:c.G i n=some (.slice (some ⟨b,0,some 0⟩) n n)) (g:jQ c S (dB B c h) cs ws) (hl:o+cs.length<=vs.length){Kv:Hp->Prop}{K:St->Bool} (k:∀h' S',uN (dB B c h) S S' (dB B c h')->VS P B Sb c h' S'->Kv h'->K S'=true) (hv:Kv (upd h i (.iD (splice o cs vs) t n))):oW S b o ws K=true:=by
 obtain⟨b',us,olds,sz,a1,a2,a3,a4,a5,a6⟩:=s.iD i vs t n e;rw [hG]at a1;injection a1 with a1;injection a1 with a1;injection a1 with a1;injection a1 with a1;subst a1;have l1:=a5.len;have l2:=g.len;have hsl:(splice o cs vs).length=vs.length:=by unfold splice;simp;omega
 unfold oW;rw [zV a4]
 show(AY o us fun l=>match asIs ws l with
  | true=>K S
  | false=>oE o ws us fun vs=>XQ olds S.h fun h=>IP (.cells vs t (.grown [])) (Nat.succ b) h b fun h=>K ⟨h,S.n⟩)=true
 rw [tM,if_pos (by omega)];cases hs:asIs ws (us.drop o)with
 | true=>
  obtain⟨_,q⟩:=YD hs
  have hus:splice o ws us=us:=by
   apply List.ext_getElem?;intro j;rw [nS _ _ _ (by omega)];split
   ·rename_i hj
    have:=q (j-o) _ (List.getElem?_eq_getElem (by omega));rw [List.getElem?_drop,show o+(j-o)=j by omega]at this;rw [this,List.getElem?_eq_getElem (by omega)]
   ·rfl
  obtain⟨s1,s2⟩:=s.Wk (vs':=splice o cs vs) (ws':=us) (olds:=olds) (ol:=olds) (kl:=[]) (fun _ h=>h) (fun _ h=>by cases h) e hG a4 hsl (by have:=a5.splice g o;rwa [hus]at this) (S':=S) rfl (fun j=>by
   by_cases hj:j=b
   ·rw [if_pos hj,hj,a4]
   ·rw [if_neg hj,if_neg (by simp)])
  exact k _ _ s2 s1 hv
 | false=>
  show(oE o ws us fun vs=>XQ olds S.h fun h=>IP (.cells vs t (.grown [])) (Nat.succ b) h b fun h=>K ⟨h,S.n⟩)=true;rw [sK,if_pos (by omega),Ec,DQ]
  obtain⟨s1,s2⟩:=s.Wk (vs':=splice o cs vs) (ws':=splice o ws us) (olds:=olds) (ol:=[]) (kl:=olds) (fun _ h=>by cases h) (fun _ h=>h) e hG a4 hsl (a5.splice g o) (S':=⟨Tr.yF (gF.cells (splice o ws us) t (CK.grown [])) b.succ (olds.foldl (fun h i=>h.put i gF.dead) S.h) b,S.n⟩) rfl (fun j=>by
   show Tr.get (Tr.yF _ (b+1) _ b) j=_;rw [TC _ _ _ _ _ (Nat.lt_succ_self b),Ed];rfl)
  exact k _ _ s2 s1 hv
theorem aA4 (s:VS P B Sb c h S){n:Nat}{a x:V}{w y:Value} (r:fB c S (dB B c h) a w) (q:fB c S (dB B c h) x y){Kv:Hp->Prop}{K:St->Bool} (k:∀h' S',uN (dB B c h) S S' (dB B c h')->VS P B Sb c h' S'->Kv h'->K S'=true) (hv:jK n a x h Kv):rSt n w y S K=true:=by
 unfold jK at hv;split at hv
 ·rename_i i o
  cases r with
  | @ptr _ _ b hZ=>
   split at hv
   ·rename_i vs t e
    obtain⟨cs,ws,g1,⟨g2,g3,g4⟩,g5,g6⟩:=EN s q hv;have l2:=g1.len;show lZ y (fun cs=>vX cs fun m=>match Nat.beq m n with | true=>oW S b o cs K | false=>false)=true;rw [g6,iW,show Nat.beq ws.length n=true by rw [<-l2,g2];exact Nat.beq_refl n];exact UK s e hZ g1 (by omega) k g4
   ·cases hv
 ·rename_i i q' o
  cases r with
  | @nV _ _ _ b hG=>
   split at hv
   ·rename_i vs t m e
    obtain⟨rfl,hv⟩:=hv;obtain⟨cs,ws,g1,⟨g2,g3,g4⟩,g5,g6⟩:=EN s q hv;have l2:=g1.len;show lZ y (fun cs=>vX cs fun m=>match Nat.beq m n with | true=>oW S b o cs K | false=>false)=true;rw [g6,iW,show Nat.beq ws.length n=true by rw [<-l2,g2];exact Nat.beq_refl n];exact EO s e hG g1 (by omega) k g4
   ·cases hv
 ·cases hv
end
section
variable{P:Program}{B:Nat->Prop}{Sb:St}{c c' d:Cx}{h h':Hp}{S S':St}{C C':Nat->Prop}
def KR (P:Program) (B:Nat->Prop) (Sb:St) (c:Cx) (h:Hp) (S:St) (Kv:KV) (K:VK):Prop:=
 ∀c' h' S' v w,c.le c'->uN (dB B c h) S S' (dB B c' h')->VS P B Sb c' h' S'->fB c' S' (dB B c' h') v w->Kv v h'->K w S'=true
theorem KR.here{Kv:KV}{K:VK} (k:KR P B Sb c h S Kv K) (s:VS P B Sb c h S){v:V}{w:Value} (r:fB c S (dB B c h) v w) (hk:Kv v h):K w S=true:=k c h S v w (.refl c) (.refl _ S) s r hk
theorem NC (s:VS P B Sb c h S){vs:List V}{ws:List Value}{t:TypeId} (hv:jQ c S (dB B c h) vs ws){Kn:Nat->Hp->Prop} (hn:vNew vs t h Kn):
 ∃c' h' i,c.le c'/\uN (dB B c h) S (S.new (.cells ws t .exact)) (dB B c' h')/\VS P B Sb c' h' (S.new (.cells ws t .exact))/\c'.Zz i=some S.n/\Kn i h':=by
 obtain⟨i,e1,e2,e3⟩:=s.fresh;obtain⟨a1,a2,a3,a4⟩:=s.newRow e1 e2 e3 t hv;exact⟨_,_,i,a2,a3,a1,a4,hn i e1⟩
theorem Kb (s:VS P B Sb c h S){z:List Value}{t:TypeId}{Kv:KV}{K:VK} (k:KR P B Sb c h S Kv K) (hv:fE z t h Kv):OW z t S K=true:=by
 unfold fE wJ at hv;split at hv
 ·rename_i l e
  obtain⟨c',h',i,a1,a2,a3,a4,a5⟩:=NC s (IB e) hv;rw [Uy];exact k c' h' _ _ _ a1 a2 a3 (.ptr a4) a5
 ·cases hv
theorem Wn (s:VS P B Sb c h S){t:TypeId}{x:V}{w:Value} (r:fB c S (dB B c h) x w){Kv:KV}{K:VK} (k:KR P B Sb c h S Kv K) (hv:nW t x h Kv):Dr t w S K=true:=by
 obtain⟨cs,ws,g1,g2,g3,g4⟩:=EN s r hv;obtain⟨c',h',i,a1,a2,a3,a4,a5⟩:=NC s g1 g2;unfold Dr;rw [g4,gD];exact k c' h' _ _ _ a1 a2 a3 (.ptr a4) a5
def PsR (c:Cx) (S:St) (C:Nat->Prop):List (Nat×Nat×V)->List (Nat×Nat×Value)->Prop
 | [],[]=>True
 | (o,n,v)::l,(o',n',w)::m=>o=o'/\n=n'/\fB c S C v w/\PsR c S C l m
 | _,_=>False
theorem YR (s:VS P B Sb c h S):∀{ps:List (Nat×Nat×V)} {ps':List (Nat×Nat×Value)} {cs:List V} {cs':List Value} {k:List V->Prop} {k':List Value->Bool},PsR c S C ps ps'->jQ c S C cs cs'->wK ps cs k->(∀cs cs',jQ c S C cs cs'->k cs->k' cs'=true)->GK ps' cs' k'=true:=by
 intro ps;induction ps with
 | nil=>
  intro ps' cs cs' k k' hp hc hv hk
  match ps',hp with
  | [],_=>exact hk cs cs' hc hv
 | cons p ps ih=>
  intro ps' cs cs' k k' hp hc hv hk;obtain⟨o,n,v⟩:=p
  match ps',hp with
  | (o',n',w)::ps',hp=>
   obtain⟨rfl,rfl,r,hp⟩:=hp;obtain⟨vs,ws,g1,⟨g2,g3,g4⟩,g5,g6⟩:=EN s r hv;have l1:=g1.len;have l2:=hc.len;show lZ w (fun new=>vX new fun m=>match Nat.beq m n with | true=>oE o new cs' (fun cs=>GK ps' cs k') | false=>false)=true;rw [g6,iW,show Nat.beq ws.length n=true by rw [<-l1,g2];exact Nat.beq_refl n];show oE o ws cs' (fun cs=>GK ps' cs k')=true;rw [sK,if_pos (by omega)];exact ih hp (hc.splice g1 o) g4 hk
theorem KX{A:VA}{A':aX} (a:AR c S C A A'){place:Nat->Option (Nat×Nat)}:∀{ps:List (Nat×Operand)} {k:List (Nat×Nat×V)->Prop} {k':List (Nat×Nat×Value)->Bool},(PL place ps).f A k->(∀l l',PsR c S C l l'->k l->k' l'=true)->(zU place ps).f A' k'=true:=by
 intro ps;induction ps with
 | nil=>intro k k' hv hk;exact hk [] [] trivial hv
 | cons p ps ih=>
  intro k k' hv hk
  have e1:PL place (p::ps)=match place p.1 with
   | some (off,size)=>⟨fun A k=>(uL p.2).f A fun v=>(PL place ps).f A fun l=>k ((off,size,v)::l)⟩
   | none=>⟨fun _ _=>False⟩:=rfl
  have e2:zU place (p::ps)=match place p.1 with
   | some (off,size)=>⟨fun A k=>(sY p.2).f A fun v=>(zU place ps).f A fun l=>k ((off,size,v)::l)⟩
   | none=>⟨fun _ _=>false⟩:=rfl
  rw [e1]at hv;rw [e2];cases hp:place p.1 with
  | none=>rw [hp]at hv;cases hv
  | some q=>
   obtain⟨off,size⟩:=q;rw [hp]at hv;simp only at hv ⊢;rw [iX];refine bO a hv fun v w r hv=>?_;exact ih hv fun l l' hl h=>hk ((off,size,v)::l) ((off,size,w)::l') ⟨rfl,rfl,r,hl⟩ h
theorem UL (s:VS P B Sb c h S){z:List Value}{ps:List (Nat×Nat×V)}{ps':List (Nat×Nat×Value)} (hp:PsR c S C ps ps'){Kv:V->Prop}{K:Value->Bool} (k:∀v w,fB c S C v w->Kv v->K w=true) (hv:gP z ps Kv):Jc z ps' K=true:=by
 unfold gP wJ at hv;split at hv
 ·rename_i l e
  exact YR s hp (IB e) hv fun cs cs' r h=>k _ _ (.agg r.len r.rd) h
 ·cases hv
theorem Gk (s:VS P B Sb c h S){el n:Nat}{z:List Value}{ps:List (Nat×Nat×V)}{ps':List (Nat×Nat×Value)} (hp:PsR c S (dB B c h) ps ps'){Kv:KV}{K:VK} (k:KR P B Sb c h S Kv K) (hv:dP el n z ps h Kv):As el n z ps' S K=true:=by
 unfold dP wJ at hv;split at hv
 ·rename_i l e
  unfold As;rw [vS];refine YR s hp ((IB e).flatten n) hv fun cs cs' r hv=>?_;obtain⟨c',h',i,a1,a2,a3,a4,a5⟩:=NC s r hv;rw [gD];exact k c' h' _ _ _ a1 a2 a3 (.own a4) a5
 ·cases hv
theorem Wo{off:Nat}{x:V}{w:Value} (r:fB c S C x w){Kv:V->Prop}{K:Value->Bool} (k:∀v w,fB c S C v w->Kv v->K w=true) (hv:aD off x Kv):Uk off w K=true:=by
 unfold aD at hv;split at hv
 ·cases r with | ptr e=>rw [Je];exact k _ _ (.ptr e) hv
 ·cases r with | tS ht hd=>rw [Je,Nat.add_assoc];exact k _ _ (.tS ht hd) hv
 ·cases r with | nV e=>rw [Je];exact k _ _ (.nV e) hv
 ·cases hv
theorem Kc{off:Nat}{x:V}{w:Value} (r:fB c S C x w){Kv:V->Prop}{K:Value->Bool} (k:∀v w,fB c S C v w->Kv v->K w=true) (hv:Js off x Kv):TV off w K=true:=by
 unfold Js at hv;split at hv
 ·cases r with
  | agg la ha=>
   obtain⟨v,e,hv⟩:=CO hv;obtain⟨u,eu,ru⟩:=jQ.get ⟨la,ha⟩ e;rw [Ux eu];exact k v u ru hv
 ·cases hv
theorem Gl{off n:Nat}{x:V}{w:Value} (r:fB c S C x w){Kv:V->Prop}{K:Value->Bool} (k:∀v w,fB c S C v w->Kv v->K w=true) (hv:Bd off n x Kv):MQ off n w K=true:=by
 unfold Bd at hv;split at hv
 ·cases r with
  | agg la ha=>
   obtain⟨hl,hv⟩:=hv;have hr:jQ c S C _ _:=⟨la,ha⟩;rw [Pw (by omega)];exact k _ _ (.agg ((hr.drop off).take n).len ((hr.drop off).take n).rd) hv
 ·cases hv
theorem Wp (s:VS P B Sb c h S){size:Nat}{x ix:V}{w iw:Value} (r:fB c S C x w) (ri:fB c S C ix iw){Kv:V->Prop}{K:Value->Bool} (k:∀v w,fB c S C v w->Kv v->K w=true) (hv:fQ size x ix Kv):aAB size w iw K=true:=by
 unfold fQ at hv;split at hv
 ·rename_i j i
  cases ri;split at hv
  ·obtain⟨hi,hv⟩:=hv
   cases r with
   | list ht hd=>
    cases hd with
    | nil=>omega
    | emp=>omega
    | @row b0 o0 _ cc sp us e0 ck0 _ hsp hb hC ho hl hn hr=>
     have hlt:Nat.blt i _=true:=Nat.ble_eq_true_of_le hi;have:=k _ _ (.tS ht (.row hsp hb hC ho hl hn hr)) hv
     match sp,hsp with
     | none,_=>show(match Nat.blt i _ with | true=>_ | false=>false)=true;rw [hlt,bI];exact this
     | some 0,_=>show(match Nat.blt i _ with | true=>_ | false=>false)=true;rw [hlt,bI];exact this
  ·obtain⟨hi,hv⟩:=hv
   cases r with
   | own e=>
    have hlt:Nat.blt i _=true:=Nat.ble_eq_true_of_le hi;show(match Nat.blt i _ with | true=>_ | false=>false)=true;rw [hlt,bI];exact k _ _ (.ptr e) hv
  ·obtain⟨hi,hv⟩:=hv
   cases r with
   | acc e=>
    obtain⟨b,rfl⟩:=s.Gs _ _ _ e;have hlt:Nat.blt i _=true:=Nat.ble_eq_true_of_le hi;show(match Nat.blt i _ with | true=>_ | false=>false)=true;rw [hlt,bI,Nat.zero_add];exact k _ _ (.nV e) hv
  ·obtain⟨hi,hv⟩:=hv
   cases r with
   | FN e=>
    have hlt:Nat.blt i _=true:=Nat.ble_eq_true_of_le hi;show(match Nat.blt i _ with | true=>_ | false=>false)=true;rw [hlt,bI];exact k _ _ (.nV e) hv
  ·cases hv
 ·cases hv
theorem Kd{x ix:V}{w iw:Value} (r:fB c S C x w) (ri:fB c S C ix iw){Kv:V->Prop}{K:Value->Bool} (k:∀v w,fB c S C v w->Kv v->K w=true) (hv:Jt x ix Kv):An w iw K=true:=by
 unfold Jt at hv;split at hv
 ·cases ri
  split at hv
  ·rename_i l
   cases r;obtain⟨b,e,hv⟩:=CO hv;show IQ l _ (fun b:UInt8=>cF b.toNat fun n=>K (.int .u8 (.ofNat n)))=true;rw [Au e,bI];exact k _ _ .int hv
  ·cases hv
 ·cases hv
theorem Wq{i:Nat}{x:V}{w:Value} (r:fB c S C x w){Kv:V->Prop}{K:Value->Bool} (k:∀v w,fB c S C v w->Kv v->K w=true) (hv:lU i x Kv):Ur i w K=true:=by
 unfold lU at hv;split at hv
 ·cases r with
  | tuple la ha=>
   obtain⟨v,e,hv⟩:=CO hv;obtain⟨u,eu,ru⟩:=jQ.get ⟨la,ha⟩ e;rw [aC6,Au eu];exact k v u ru hv
 ·cases hv
theorem Ws{kd:IntKind}{x:V}{w:Value} (r:fB c S C x w){Kv:V->Prop}{K:Value->Bool} (k:∀v w,fB c S C v w->Kv v->K w=true) (hv:aDj kd x Kv):Uq kd w K=true:=by
 unfold aDj at hv;split at hv
 ·cases r;rw [aC7];exact k _ _ .int hv
 ·cases hv
theorem Qy (s:VS P B Sb c h S){x:V}{w:Value} (r:fB c S C x w){Kv:V->Prop}{K:Value->Bool} (k:∀v w,fB c S C v w->Kv v->K w=true) (hv:cY x Kv):Mm w K=true:=by
 unfold cY at hv;split at hv
 ·cases r with
  | list ht hd=>cases hd<;>exact k _ _ .int hv
 ·cases r;exact k _ _ .int hv
 ·cases r with
  | acc e=>obtain⟨b,rfl⟩:=s.Gs _ _ _ e;exact k _ _ .int hv
 ·cases r;exact k _ _ .int hv
 ·cases r;exact k _ _ .int hv
 ·cases r;exact k _ _ .int hv
 ·cases hv
theorem Qz{x:V}{w:Value} (r:fB c S C x w){Kv:V->Prop}{K:Value->Bool} (k:∀v w,fB c S C v w->Kv v->K w=true) (hv:xN x Kv):Fg w K=true:=by
 unfold xN at hv;split at hv
 ·cases r;rw [aAH];exact k _ _ .int hv
 ·cases hv
theorem Src.Ke{i o n cc size:Nat}{sp:Option Nat} (hsp:ZI sp=true){vs:List Value}{e:TypeId}{ck:CK} (ho:S.obj i=some (.cells vs e ck)) (hn:o+n*size<=vs.length) (h1:∀v∈(vs.drop o).take (n*size),oneCell v=true):Src S size (.slice (some ⟨i,o,sp⟩) n cc) n ((vs.drop o).take (n*size)):=by
 refine⟨fun k=>rfl,fun k hz=>?_,h1⟩;obtain⟨m,rfl⟩:=Nat.exists_eq_succ_of_ne_zero hz
 match sp,hsp with
 | none,_=>show AZ S i o ((m+1)*size) k=_;rw [EB ho hn]
 | some 0,_=>show AZ S i o ((m+1)*size) k=_;rw [EB ho hn]
theorem Wt (s:VS P B Sb c h S){size:Nat} (hs0:0<size){x:V}{w:Value} (r:fB c S (dB B c h) x w){kv:Nat->List V->Prop} (hv:zY size x h kv):∃n vs ws,kv n vs/\jQ c S (dB B c h) vs ws/\vs.length=n*size/\(∀k,FC w k=k n)/\(vs.all lL=true->Src S size w n ws):=by
 unfold zY at hv;split at hv
 ·cases r
  exact⟨0,[],[],hv,.nil,by simp,fun k=>rfl,fun _=>⟨fun k=>rfl,fun k hz=>absurd rfl hz,fun v hv=>by cases hv⟩⟩
 ·rename_i O cs n
  obtain⟨hl,hv⟩:=hv;cases r with
  | list ht hd=>
   have hlen:∀k,FC w k=k n:=fun k=>by cases hd<;>rfl
   rcases Nat.eq_zero_or_pos n with hz | hz
   ·subst hz
    refine⟨0,_,[],hv,?_,by simp [EM],hlen,fun _=>⟨hlen,fun k hz=>absurd rfl hz,fun v hv=>by cases hv⟩⟩;rw [Nat.zero_mul,List.take_zero];exact .nil
   ·cases hd with
    | nil=>omega
    | emp=>omega
    | @row b o _ cc sp vs e ck _ hsp hb hC ho hl2 hn hr=>
     have hpos:0<n*size:=Nat.mul_pos hz hs0;obtain⟨us,e',ck',g1,g2,g3⟩:=PM ht (.row hsp hb hC ho hl2 hn hr) (k:=0) (m:=n*size) (by omega) hpos;rw [ho]at g1;injection g1 with g1;injection g1 with g1;subst g1;rw [List.drop_zero,Nat.add_zero]at g3;refine⟨n,_,_,hv,g3,by rw [EM,List.length_take];omega,hlen,fun h1=>Src.Ke hsp ho (by omega) fun v hv=>?_⟩;exact List.all_eq_true.1 (s.ones g3 h1) v hv
 ·rename_i i o n cc
  cases r with
  | own hZ=>
   split at hv
   ·rename_i vs t e
    obtain⟨hl,hv⟩:=hv;obtain⟨b,ws,a1,a2,a3,a4,a5⟩:=s.row i vs t e;rw [hZ]at a1;injection a1 with a1;subst a1;have l:=a5.len;have hr:=(a5.drop o).take (n*size);refine⟨n,_,_,hv,hr,by rw [List.length_take,List.length_drop];omega,fun k=>rfl,fun h1=>Src.row a4 (by omega) fun v hv=>List.all_eq_true.1 (s.ones hr h1) v hv⟩
   ·cases hv
 ·rename_i i n
  cases r with
  | acc hG=>
   split at hv
   ·rename_i vs t m e
    obtain⟨rfl,hl,hv⟩:=hv;obtain⟨b,ws,olds,sz,a1,a2,a3,a4,a5,a6⟩:=s.iD i vs t m e;rw [hG]at a1;injection a1 with a1;subst a1;have l:=a5.len;refine⟨m,vs,ws,hv,a5,hl,fun k=>rfl,fun h1=>?_⟩;have:=Src.Ke (n:=m) (cc:=m) (size:=size) (o:=0) (sp:=some 0) rfl a4 (by omega) (fun v hv=>List.all_eq_true.1 (s.ones a5 h1) v (by rw [List.drop_zero]at hv;exact List.mem_of_mem_take hv))
    rwa [List.drop_zero,List.take_of_length_le (by omega)]at this
   ·cases hv
 ·rename_i i n o q cc
  cases r with
  | FN hG=>
   split at hv
   ·rename_i vs t m e
    obtain⟨rfl,hl,hv⟩:=hv;obtain⟨b,ws,olds,sz,a1,a2,a3,a4,a5,a6⟩:=s.iD i vs t m e;rw [hG]at a1;injection a1 with a1;injection a1 with a1;injection a1 with a1;injection a1 with a1;subst a1;have l:=a5.len;have hr:=(a5.drop o).take (q*size);refine⟨q,_,_,hv,hr,by rw [List.length_take,List.length_drop];omega,fun k=>rfl,fun h1=>Src.Ke (n:=q) (cc:=cc) (size:=size) (o:=o) (sp:=some 0) rfl a4 (by omega) fun v hv=>List.all_eq_true.1 (s.ones hr h1) v hv⟩
   ·cases hv
 ·cases r
  exact⟨0,[],[],hv,.nil,by simp,fun k=>rfl,fun _=>⟨fun k=>rfl,fun k hz=>absurd rfl hz,fun v hv=>by cases hv⟩⟩
 ·rename_i l
  cases r;obtain⟨rfl,hv⟩:=hv;have hx:=Src.text S l;refine⟨l.length,_,bytesV l,hv,⟨by simp [bytesV],fun k v w e1 e2=>?_⟩,by simp,hx.len,fun _=>hx⟩;unfold bytesV at e2;rw [List.getElem?_map]at e1 e2;cases e:l[k]? with
  | none=>rw [e]at e1;cases e1
  | some b=>rw [e]at e1 e2;injection e1 with e1;injection e2 with e2;subst e1 e2;exact .int
 ·cases hv
theorem Wu (s:VS P B Sb c h S){el size bytes:Nat} (hs0:0<size) (hsz:bQ P el=some size){y x:V}{w u:Value} (r:fB c S (dB B c h) y w) (q:fB c S (dB B c h) x u){Kv:KV}{K:VK} (k:KR P B Sb c h S Kv K) (hv:oP el size bytes y x h Kv):Iz P el size bytes w u S K=true:=by
 obtain⟨m,vs,ws,hv,hr,hl,hlen,hsrc⟩:=Wt s hs0 q hv;cases m with
 | zero=>
  have hap:∀b n cc,w= .slice b n cc->n<=cc->Kv y h->Iz P el size bytes w u S K=true:=fun b n cc e hn hk=>by
   have hw:=k.here s r hk;subst e;show FC u _=true;rw [hlen];show(match Nat.ble n cc with | true=>K (.slice b n cc) S | false=>false)=true;rw [show Nat.ble n cc=true from Nat.ble_eq_true_of_le hn];exact hw
  simp only at hv;split at hv
  ·cases r;exact hap _ _ _ rfl (Nat.le_refl _) hv
  ·cases r with
   | acc e=>obtain⟨b,rfl⟩:=s.Gs _ _ _ e;exact hap _ _ _ rfl (Nat.le_refl _) hv
  ·cases r;exact hap _ _ _ rfl hv.1 hv.2
  ·cases r with
   | list ht hd=>
    cases hd with
    | nil=>exact hap _ _ _ rfl (Nat.le_refl _) hv
    | emp=>exact hap _ _ _ rfl (Nat.le_refl _) hv
    | row _ _ _ _ _ hn _=>exact hap _ _ _ rfl hn hv
  ·cases hv
 | succ m=>
  obtain⟨h1,hv⟩:=hv;have hx:=hsrc h1;split at hv
  ·obtain⟨hb,hv⟩:=hv
   cases r;rw [Uz hx (by omega) hb];obtain⟨i,e1,e2,e3⟩:=s.fresh;obtain⟨a1,a2,a3,a4⟩:=s.Ka e1 e2 e3 hsz hl hr;exact k _ _ _ _ _ a2 a3 a1 (.acc a4) (hv i e1)
  ·rename_i i n hv0
   cases ei:h i with
   | none=>simp only [ei]at hv
   | some ob=>
   cases ob with
   | row us t=>simp only [ei]at hv
   | map es=>simp only [ei]at hv
   | loop=>simp only [ei]at hv
   | iD us t n'=>
    simp only [ei]at hv;obtain⟨hn',ht',hul,hb,hv⟩:=hv;subst hn' ht';have e:=ei;obtain⟨b,ws2,olds,sz,a1,a2,a3,a4,a5,a6,a7,a8⟩:=s.iD i us _ _ e;cases r with
    | acc hG=>
     rw [a1]at hG;injection hG with hG;subst hG;have l2:=a5.len;rw [Va hx (by omega) hb a4 (by omega) hsz];obtain⟨b1,b2,b3,b4⟩:=s.aA1 e a1 a4 hsz hl (by omega) hul a5 hr;exact k _ _ _ _ _ b2 b3 b1 (.acc b4) hv
  ·rename_i i o n cc hv0
   cases ei:h i with
   | none=>simp only [ei]at hv
   | some ob=>
   cases ob with
   | iD us t n'=>simp only [ei]at hv
   | map es=>simp only [ei]at hv
   | loop=>simp only [ei]at hv
   | row us t=>
    simp only [ei]at hv;obtain⟨hb,hlen0,hin,hout⟩:=hv;obtain⟨b,ws2,a1,a2,a3,a4,a5⟩:=s.row i us t ei;have l2:=a5.len;cases r with
    | own hZ=>
     rw [a1]at hZ;injection hZ with hZ;subst hZ;show FC u _=true;rw [hx.len];show DI S size (m+1) u _=true;rw [hx.first _ (by omega)];simp only [bI];rw [show Nat.ble ((n+(m+1))*(bytes+1)) 1099511627776=true from Nat.ble_eq_true_of_le hb];by_cases hc:n+(m+1)<=cc
     ·rw [show Nat.ble (n+(m+1)) cc=true from Nat.ble_eq_true_of_le hc]
      obtain⟨hfit,hv⟩:=hin hc;have hone:allB oneCell ws=true:=by rw [mQ];exact s.ones hr h1
      show OG size ws (some ⟨b,o,none⟩) n cc (n+(m+1)) S K=true;unfold OG;simp only [show ZI none=true from rfl,hone];show cF (o+n*size) (fun at_=>oW S b at_ ws fun S=>K (.slice (some ⟨b,o,none⟩) (n+(m+1)) cc) S)=true;rw [bI];show oW S b (o+n*size) ws _=true;unfold oW;rw [zV a4];show oE (o+n*size) ws ws2 (fun vs=>pV S b (.cells vs t .exact) fun S=>K (.slice (some ⟨b,o,none⟩) (n+(m+1)) cc) S)=true;have l3:=hr.len;rw [sK,if_pos (by omega),fS];obtain⟨s1,s2⟩:=s.setRow ei a1 (a5.splice hr (o+n*size));exact k c _ _ _ _ (.refl c) s2 s1 (.own a1) hv
     ·have:Nat.ble (n+(m+1)) cc=false:=by
       cases hq:Nat.ble (n+(m+1)) cc with
       | false=>rfl
       | true=>exact absurd (Nat.le_of_ble_eq_true hq) hc
      rw [this];have hv:=hout (by omega);show LT P el size ws (some ⟨b,o,none⟩) n (n+(m+1)) S K=true;show AZ S b o (n*size) (fun old=>FD el old ws (n+(m+1)) none S K)=true;rw [EB a4 (by omega)];unfold FD;rw [jJ];simp only [gD];obtain⟨j,e1,e2,e3⟩:=s.fresh;have hr2:=((a5.drop o).take (n*size)).app hr
      have hn2:((us.drop o).take (n*size)++vs).length=(n+(m+1))*size:=by
       rw [List.length_append,List.length_take,List.length_drop,hl,Nat.add_mul n,Nat.min_eq_left (by omega)]
      obtain⟨b1,b2,b3,b4⟩:=s.Ka e1 e2 e3 hsz hn2 hr2;exact k _ _ _ _ _ b2 b3 b1 (.acc b4) (hv j e1)
  ·cases hv
theorem Wv{x:V}{w:Value} (r:fB c S C x w){Kv:V->Prop}{K:Value->Bool} (k:∀v w,fB c S C v w->Kv v->K w=true) (hv:aQ P x Kv):aAD P w K=true:=by
 unfold aQ at hv;split at hv
 ·cases r with | ptr e=>exact k _ _ (.ptr e) hv
 ·cases r with | tS ht hd=>exact k _ _ (.tS ht hd) hv
 ·cases r with | nV e=>exact k _ _ (.nV e) hv
 ·cases r with | func a b e f=>exact k _ _ (.func a b e f) hv
 ·cases r with | iface e=>exact k _ _ (.iface e) hv
 ·split at hv
  ·rename_i s v t w'
   split at hv
   ·rename_i g hg
    cases r with
    | meth r=>
     cases r with
     | iface r=>
      show(match zH P t s with | some _=>_ | none=>false)=true;rw [hg];exact k _ _ (.meth (.iface r)) hv
   ·cases hv
  ·cases hv
 ·cases hv
theorem aHp (x y:Int):(x==y)=decide (x=y):=by
 by_cases e:x=y
 ·subst e;simp
 ·rw [decide_eq_false e];simpa using e
inductive NR:NK->Bool->Value->Prop
 | p0 {a:Addr}:NR .ptr false (.pointer (some a))
 | p1:NR .ptr true (.pointer none)
 | s0 {a:Addr} {n m:Nat}:NR .slice false (.slice (some a) n m)
 | s1 {n m:Nat}:NR .slice true (.slice none n m)
 | m0 {b:Nat}:NR .map false (.map (some b))
 | m1:NR .map true (.map none)
 | f0 {f:Fn} {a b:Array Value}:NR .func false (.func f a b)
 | f1:NR .func true .nilFunc
 | i0 {t:TypeId} {v:Value}:NR .iface false (.iface t v)
 | i1:NR .iface true .nilIface
theorem UM (hG:∀i n w,c.G i n=some w->∃b,w= .slice (some ⟨b,0,some 0⟩) n n){a:V}{u:Value} (r:fB c S C a u){kk:NK}{x:Bool} (hk:Be a=some (kk,x)):NR kk x u:=by
 cases r with
 | @list O cs n w ht hd=>
  cases cs with
  | nil=>cases hk
  | cons d cs=>
   injection hk with hk;injection hk with h1 h2;subst h1 h2;cases hd with
   | row=>exact .s0
 | acc e=>obtain⟨b,rfl⟩:=hG _ _ _ e;injection hk with hk;injection hk with h1 h2;subst h1 h2;exact .s0
 | _=>first
  | (cases hk;done)
  | (injection hk with hk;injection hk with h1 h2;subst h1 h2;constructor)
theorem aGh{t:TypeId}{kk:NK}{x y:Bool}{u w:Value} (hx:NR kk x u) (hy:NR kk y w) (ho:x=true\/y=true) (hi:x=true->y=true->kk≠ .iface) (ht:YM P t=some kk) (k:Bool->Bool):nR P t u w k=k (x&&y):=by
 unfold YM at ht;cases hx<;>cases hy<;>first | (rcases ho with ho | ho<;>cases ho;done) | (exact absurd rfl (hi rfl rfl)) | (unfold nR;split at ht<;>first | (rename_i hu;simp only [hu];rfl) | (cases ht;done))
theorem Kf{op:BinOp}{t:TypeId}{a b:V}{u w:Value} (hG:∀i n w,c.G i n=some w->∃b,w= .slice (some ⟨b,0,some 0⟩) n n) (r:fB c S C a u) (q:fB c S C b w){Kv:V->Prop}{K:Value->Bool} (k:∀v w,fB c S C v w->Kv v->K w=true) (hv:Ju P op t a b Kv):RE P op t u w K=true:=by
 unfold Ju at hv;split at hv
 ·rename_i ka x ha
  split at hv
  ·rename_i kb y hb
   obtain⟨rfl,ht,hxy,hi,hv⟩:=hv;have hx:=UM hG r ha;have hy:=UM hG q hb;have e:=aGh hx hy hxy hi ht;cases op<;>first | (cases hv;done) | skip
   ·have:RE P .eql t u w K=nR P t u w fun e=>lY e K:=by cases hx<;>cases hy<;>rfl
    rw [this,e,pK];exact k _ _ .bool hv
   ·have:RE P .neq t u w K=nR P t u w fun e=>lY (!e) K:=by cases hx<;>cases hy<;>rfl
    rw [this,e,pK];exact k _ _ .bool hv
  ·cases hv
 ·cases hv
theorem Ww{op:BinOp}{t:TypeId}{a b:V}{u w:Value} (hG:∀i n w,c.G i n=some w->∃b,w= .slice (some ⟨b,0,some 0⟩) n n) (r:fB c S C a u) (q:fB c S C b w){Kv:V->Prop}{K:Value->Bool} (k:∀v w,fB c S C v w->Kv v->K w=true) (hv:aF P op t a b Kv):Up P op t u w K=true:=by
 rw [EA];unfold aF at hv;split at hv
 ·rename_i j x
  split at hv
  ·rename_i k' y
   cases r;cases q;cases hs:sI op with
   | true=>
    rw [hs]at hv;obtain⟨hy,hv⟩:=hv;have hlt:WJ y 0=false:=by rw [zP];exact decide_eq_false (by omega)
    cases op<;>first | cases hs | skip
    ·show KD .shl j x y K=true
     unfold KD;rw [hlt];show DE j (x*2 ^ (min y.toNat j.bits)) K=true;unfold DE;rw [nC];exact k _ _ .int hv
    ·show KD .shr j x y K=true
     unfold KD;rw [hlt];show tH (x.fdiv (2 ^ (min y.toNat j.bits))) (fun n=>K (.int j n))=true;rw [nC];exact k _ _ .int hv
   | false=>
    rw [hs]at hv;obtain⟨rfl,hv⟩:=hv
    have hg:RE P op t (.int j x) (.int j y) K=DF op j x y K:=by
     rw [<-EA];exact aC8 _ _ _ _ _ _ (by rintro rfl;cases hs) (by rintro rfl;cases hs)
    rw [hg]
    have hint:∀n,Kv (.int j (kC j n))->DE j n K=true:=fun n hv=>by
     unfold DE;rw [nC];exact k _ _ .int hv
    have h0:∀y:Int,y≠0->RX y 0=false:=fun y hy=>by rw [qL];simpa using hy
    cases op<;>first
     | exact hint _ hv
     | (obtain⟨hy,hv⟩:=hv;show(match RX y 0 with | true=>false | false=>_)=true;rw [h0 y hy];first | exact hint _ hv | (show tH _ _=true;rw [nC];exact k _ _ .int hv))
     | (show tH (j.wrap _) (fun n=>K (.int j n))=true;rw [nC];exact k _ _ .int hv)
     | (show lY _ K=true;rw [pK];simp only [qL,zP,aHp];first | exact k _ _ .bool hv | (have e1:(!decide (y<x))=decide (x<=y):=(by by_cases h:y<x;rw [decide_eq_true h,decide_eq_false (show ¬x<=y by omega)];rfl;rw [decide_eq_false h,decide_eq_true (show x<=y by omega)];rfl);rw [e1];exact k _ _ .bool hv) | (have e1:(!decide (x<y))=decide (y<=x):=(by by_cases h:x<y;rw [decide_eq_true h,decide_eq_false (show ¬y<=x by omega)];rfl;rw [decide_eq_false h,decide_eq_true (show y<=x by omega)];rfl);rw [e1];exact k _ _ .bool hv))
     | cases hv
     | cases hs
  ·cases hv
 ·rename_i x
  split at hv
  ·rename_i y
   cases r;cases q
   have e8:RD x y=decide (x=y):=by
    rw [yJ];by_cases e:x=y
    ·subst e;simp
    ·rw [decide_eq_false e];simpa using e
   cases op<;>first
    | (show lY _ K=true;rw [pK];show K (.bool _)=true;first | (rw [e8];exact k _ _ .bool hv) | (rw [Md];exact k _ _ .bool hv))
    | (exact absurd hv id)
    | (obtain⟨hl,hv⟩:=hv
       show(vX x fun n=>vX y fun m=>match Nat.blt (n+m) 9223372036854775808 with | true=>uM x y fun l=>K (.string ⟨⟨l⟩⟩) | false=>false)=true;rw [iW,iW,show Nat.blt (x.length+y.length) 9223372036854775808=true from Nat.ble_eq_true_of_le hl];exact(jJ x y _).trans (k _ _ .str hv))
  ·cases hv
 ·rename_i x
  split at hv
  ·rename_i y
   cases r;cases q;obtain⟨ht,hv⟩:=hv;unfold SI at ht;split at ht
   ·rename_i hu
    have hb:(x==y)=decide (x=y):=by cases x<;>cases y<;>rfl
    cases op<;>first | cases hv | skip
    all_goals
     show nR P t (.bool x) (.bool y) _=true;unfold nR;simp only [hu,lT,pK,hb];exact k _ _ .bool hv
   ·cases ht
  ·cases hv
 ·exact Kf hG r q k hv
theorem aA5{op:UnOp}{a:V}{u:Value} (r:fB c S C a u){Kv:V->Prop}{K:Value->Bool} (k:∀v w,fB c S C v w->Kv v->K w=true) (hv:GU op a Kv):unK op u K=true:=by
 unfold GU at hv;split at hv
 ·split at hv
  ·cases r;rw [aAI];exact k _ _ .bool hv
  ·cases hv
 ·cases hv
theorem Gm{P:Program}{big:Bool}{ts:List TypeId}{a b:V}{w u:Value} (r:fB c S C a w) (q:fB c S C b u){Kv:V->Prop}{K:VK} (k:∀v w,fB c S C v w->Kv v->K w S=true) (hv:Bf big a b Kv):nD P (match big with | true=> .max | false=> .min) ts [w,u] S K=true:=by
 cases r<;>try (cases hv;done)
 cases q<;>try (cases hv;done)
 rename_i j x j' y;have hw:=k _ _ .int hv;cases big with
 | true=>
  show JG true [.int j' y] j x (fun v=>K v S)=true;show dW (WJ x y) (K (.int j y) S) (K (.int j x) S)=true;rw [zP];simp only [Int.max_def]at hw;by_cases h:x<y
  ·rw [if_pos (by omega)]at hw;simp only [decide_eq_true h];exact hw
  ·by_cases h2:x<=y
   ·rw [if_pos h2]at hw
    have:x=y:=by omega
    subst this;simp only [decide_eq_false h];exact hw
   ·rw [if_neg h2]at hw
    simp only [decide_eq_false h];exact hw
 | false=>
  show JG false [.int j' y] j x (fun v=>K v S)=true;show dW (WJ y x) (K (.int j y) S) (K (.int j x) S)=true;rw [zP];simp only [Int.min_def]at hw;by_cases h:y<x
  ·rw [if_neg (by omega)]at hw;simp only [decide_eq_true h];exact hw
  ·rw [if_pos (by omega)]at hw;simp only [decide_eq_false h];exact hw
inductive OR' (c:Cx) (S:St) (C:Nat->Prop):Option V->Option Value->Prop
 | none:OR' c S C none none
 | some {v:V} {w:Value} (h:fB c S C v w):OR' c S C (some v) (some w)
theorem UN{d:Nat}{o:Option V}{o':Option Value} (r:OR' c S C o o'){k:Nat->Prop}{K:Nat->Bool} (hk:∀n,k n->K n=true) (hv:aAU d o k):Or d o' K=true:=by
 cases r with
 | none=>exact hk _ hv
 | some r=>
  cases r<;>try (cases hv;done)
  rename_i j z;cases z with
  | ofNat n=>exact hk n hv
  | negSucc n=>cases hv
theorem CP{len cap:Nat}{lo hi mx:Option V}{lo' hi' mx':Option Value} (r1:OR' c S C lo lo') (r2:OR' c S C hi hi') (r3:OR' c S C mx mx'){k:Nat->Nat->Nat->Prop}{K:Nat->Nat->Nat->Bool} (hk:∀l h m,l<=h->h<=m->m<=cap->k l h m->K l h m=true) (hv:QU len cap lo hi mx k):DG len cap lo' hi' mx' K=true:=by
 refine UN r3 (fun m hv=>UN r2 (fun h hv=>UN r1 (fun l hv=>?_) hv) hv) hv;obtain⟨h1,h2,h3,hv⟩:=hv;simp only [Nat.ble_eq_true_of_le h1,Nat.ble_eq_true_of_le h2,Nat.ble_eq_true_of_le h3];exact hk l h m h1 h2 h3 hv
theorem Wx (s:VS P B Sb c h S){t el:TypeId}{size:Nat} (he:isSlice P t=some el) (hs:bQ P el=some size){x:V}{w:Value} (r:fB c S C x w){lo hi mx:Option V}{lo' hi' mx':Option Value} (r1:OR' c S C lo lo') (r2:OR' c S C hi hi') (r3:OR' c S C mx mx'){k:V->Prop}{K:Value->Bool} (hk:∀v w,fB c S C v w->k v->K w=true) (hv:uO el size x lo hi mx h k):rG P t w lo' hi' mx' S K=true:=by
 have iD:∀{i n b o q cc:Nat},c.G i n=some (.slice (some ⟨b,0,some 0⟩) n n)->(match h i with
  | some (.iD _ t n')=>n'=n/\t=el/\QU q cc lo hi none fun l h m=>(l<m->k (.FN i n (o+l*size) (h-l) (m-l)))/\(m=l->k (.emp i n))
  | _=>False)->rG P t (.slice (some ⟨b,o,some 0⟩) q cc) lo' hi' none S K=true:=by
  intro i n b o q cc e hq;split at hq
  ·rename_i vs t' n' ei
   obtain⟨rfl,rfl,hq⟩:=hq;obtain⟨b',us,olds,sz,a1,a2,a3,a4,a5,a6,a7⟩:=s.iD i vs t' n' ei;rw [e]at a1;injection a1 with a1;injection a1 with a1;injection a1 with a1;injection a1 with a1;subst a1;unfold rG;simp only [he,hs];refine CP r1 r2 .none (fun l h m h1 h2 h3 hz=>?_) hq;obtain⟨hz,hz0⟩:=hz;simp only [bI];cases hw:Nat.beq m l with
   | true=>exact hk _ _ (.Wh e) (hz0 (Nat.eq_of_beq_eq_true hw))
   | false=>
    have h4:=Nat.ne_of_beq_eq_false hw;simp only;rw [zV a4];simp only [hs];rw [show Nat.beq size size=true from Nat.beq_refl size];exact hk _ _ (.FN e) (hz (by omega))
  ·cases hq
 cases r<;>try (cases hv;done)
 ·unfold rG
  simp only [he,hs];refine CP r1 r2 r3 (fun l h m h1 h2 h3 hv=>?_) hv;simp only [bI];have:h-l=0/\m-l=0:=by omega
  rw [this.1,this.2];exact hk _ _ .nil hv
 ·rename_i i n e
  obtain⟨b,rfl⟩:=s.Gs _ _ _ e;cases r3 with
  | none=>exact iD e hv
  | some _=>cases hv
 ·rename_i i n o q cc b e
  cases r3 with
  | none=>exact iD e hv
  | some _=>cases hv
 ·rename_i i o n m b e
  unfold rG;simp only [he,hs];refine CP r1 r2 r3 (fun l h m h1 h2 h3 hv=>?_) hv;simp only [bI];have hw:K (.slice (some ⟨b,if m=l then o else o+l*size,none⟩) (h-l) (m-l))=true:=hk _ _ (.own e) hv;cases hq:Nat.beq m l with
  | true=>rw [if_pos (Nat.eq_of_beq_eq_true hq)]at hw;exact hw
  | false=>rw [if_neg (Nat.ne_of_beq_eq_false hq)]at hw;exact hw
theorem Kg (s:VS P B Sb c h S){t el:TypeId}{zero:List Value}{m:Nat} (he:isSlice P t=some el) (hs:bQ P el=some (m+1)) (hz:qC P el=some zero) (hl:Nat.beq zero.length (m+1)=true) (hf:allB bH zero=true){x:V}{w:Value} (r:fB c S (dB B c h) x w){Kv:Hp->Prop}{K:VK} (k:∀h' S',uN (dB B c h) S S' (dB B c h')->VS P B Sb c h' S'->Kv h'->K (.tuple #[]) S'=true) (hv:ED zero x h Kv):nD P .clear [t] [w] S K=true:=by
 have fin:∀{b o q cc:Nat} {sp:Option Nat},ZI sp=true->oW S b o (List.replicate (q+1) zero).flatten (fun S=>K (.tuple #[]) S)=true->nD P .clear [t] [.slice (some ⟨b,o,sp⟩) (q+1) cc] S K=true:=by
  intro b o q cc sp hsp hw
  show(match isSlice P t with
   | some elem=>match bQ P elem,qC P elem with
    | some size,some zero=>match(some (⟨b,o,sp⟩:Addr)),q+1 with
     | none,_=>K (.tuple #[]) S
     | some _,0=>K (.tuple #[]) S
     | some ⟨i,o,sp⟩,n+1=>match ZI sp,Nat.beq zero.length size,allB bH zero,size with
      | true,true,true,_+1=>Dq zero (n+1) fun cs=>oW S i o cs fun S=>K (.tuple #[]) S
      | _,_,_,_=>false
    | _,_=>false
   | none=>false)=true
  simp only [he,hs,hz,hsp,hl,hf];rw [vS];exact hw
 have none0:∀{a:Addr} {cc:Nat},K (.tuple #[]) S=true->nD P .clear [t] [.slice (some a) 0 cc] S K=true:=by
  intro a cc hw
  show(match isSlice P t with
   | some elem=>match bQ P elem,qC P elem with
    | some size,some zero=>K (.tuple #[]) S
    | _,_=>false
   | none=>false)=true
  simp only [he,hs,hz];exact hw
 have zs:∀{q:Nat} {z:List V},KO zero=some z->jQ c S (dB B c h) (List.replicate (q+1) z).flatten (List.replicate (q+1) zero).flatten:=fun hz=>(IB hz).flatten _
 have Bv:∀{p:List V->Prop},wJ zero p->∃z,KO zero=some z/\p z:=by
  intro p hp;unfold wJ at hp;split at hp
  ·rename_i z e;exact⟨z,e,hp⟩
  ·cases hp
 have here:=fun(hv:Kv h)=>k h S (.refl _ S) s hv;unfold ED at hv;split at hv
 ·cases r
  show(match isSlice P t with
   | some elem=>match bQ P elem,qC P elem with
    | some size,some zero=>K (.tuple #[]) S
    | _,_=>false
   | none=>false)=true
  simp only [he,hs,hz];exact here hv
 ·cases r with
  | own e=>
   split at hv
   ·exact none0 (here hv)
   ·obtain⟨z,hz1,hq⟩:=Bv hv
    split at hq
    ·rename_i vs t' e1
     exact fin rfl (UK s e1 e (zs hz1) hq.1 k hq.2)
    ·cases hq
 ·cases r with
  | acc e=>
   obtain⟨b,rfl⟩:=s.Gs _ _ _ e;split at hv
   ·exact none0 (here hv)
   ·obtain⟨z,hz1,hq⟩:=Bv hv
    split at hq
    ·rename_i vs t' m' e1
     obtain⟨rfl,hq⟩:=hq;exact fin rfl (EO s e1 e (zs hz1) (by omega) k hq.2)
    ·cases hq
 ·cases r with
  | FN e=>
   split at hv
   ·exact none0 (here hv)
   ·obtain⟨z,hz1,hq⟩:=Bv hv
    split at hq
    ·rename_i vs t' m' e1
     obtain⟨rfl,hq⟩:=hq;exact fin rfl (EO s e1 e (zs hz1) hq.1 k hq.2)
    ·cases hq
 ·cases hv
theorem Wy{t el:TypeId}{len size:Nat} (he:P.underlying t=some (.array len el)) (hs:bQ P el=some size){x:V}{w:Value} (r:fB c S C x w){lo hi mx:Option V}{lo' hi' mx':Option Value} (r1:OR' c S C lo lo') (r2:OR' c S C hi hi') (r3:OR' c S C mx mx'){k:V->Prop}{K:Value->Bool} (hk:∀v w,fB c S C v w->k v->K w=true) (hv:Jv len size x lo hi mx k):rG P t w lo' hi' mx' S K=true:=by
 cases r<;>try (cases hv;done)
 rename_i i o b e;unfold rG;simp only [he,hs];refine CP r1 r2 r3 (fun l h m h1 h2 h3 hv=>?_) hv;simp only [bI];have hw:K (.slice (some ⟨b,if m=l then o else o+l*size,none⟩) (h-l) (m-l))=true:=hk _ _ (.own e) hv;cases hq:Nat.beq m l with
 | true=>rw [if_pos (Nat.eq_of_beq_eq_true hq)]at hw;exact hw
 | false=>rw [if_neg (Nat.ne_of_beq_eq_false hq)]at hw;exact hw
theorem Wz{t:TypeId} (he:P.underlying t=some .string){x:V}{w:Value} (r:fB c S C x w){lo hi:Option V}{lo' hi':Option Value} (r1:OR' c S C lo lo') (r2:OR' c S C hi hi'){k:V->Prop}{K:Value->Bool} (hk:∀v w,fB c S C v w->k v->K w=true) (hv:aGc x lo hi k):rG P t w lo' hi' none S K=true:=by
 cases r<;>try (cases hv;done)
 rename_i s;unfold rG;simp only [he];rw [iW];refine CP r1 r2 .none (fun l h m h1 h2 h3 hv=>?_) hv;rw [vY,if_pos (by omega),tM,if_pos (by simp;omega)];exact hk _ _ .str hv
theorem aA6 (s:VS P B Sb c h S){t el:TypeId}{info:TypeInfo}{zero:List Value}{n:Nat} (he:isSlice P t=some el) (hi:P.info? el=some info) (hz:qC P el=some zero) (hl:Nat.beq zero.length info.size=true) (hn:info.size=n+1) (hf:allB bH zero=true){x y:V}{w u:Value} (r:fB c S C x w) (q:fB c S C y u){Kv:KV}{K:VK} (k:KR P B Sb c h S Kv K) (hv:vMk el info.bytes zero x y h Kv):qJ P t w u S K=true:=by
 unfold vMk at hv;cases r<;>try (cases hv;done)
 rename_i j z;cases z with
 | negSucc n=>cases hv
 | ofNat l=>
 cases q<;>try (cases hv;done)
 rename_i j' z;cases z with
 | negSucc n=>cases hv
 | ofNat cc=>
  obtain⟨h1,h2,h3,hv⟩:=hv;unfold wJ at hv;split at hv
  ·rename_i zs e
   rw [hn]at hl;unfold qJ;simp only [he,hi,hz,Nat.ble_eq_true_of_le h1,Nat.ble_eq_true_of_le h2,Nat.ble_eq_true_of_le h3,Nat.ble_eq_true_of_le (show cc<=1099511627776 by omega),hl,hn,hf];rw [vS];obtain⟨c',h',i,a1,a2,a3,a4,a5⟩:=NC s ((IB e).flatten cc) hv;rw [gD];exact k c' h' _ _ _ a1 a2 a3 (.own a4) a5
  ·cases hv
end
section
variable{P:Program}{B:Nat->Prop}{Sb:St}{c c' d:Cx}{h h':Hp}{S S':St}{C C':Nat->Prop}
theorem Gw (k:IntKind):vA k k=true:=by cases k<;>rfl
theorem Xi{t:TypeId}{ct:CT} (h:PE P t=some ct):nQ P t=true:=by
 unfold PE at h;unfold nQ;split at h<;>simp_all
theorem aCA{t:TypeId}{ct:CT} (hc:PE P t=some ct){a b:V}{a' b':Value} (ha:fB c S C a a') (hb:fB c S C b b') (oa:Ql ct a) (ob:Ql ct b) (k:Bool->Bool):∃e:Bool,(e=true↔a=b)/\qD P t a' b' k=k e:=by
 unfold PE at hc;split at hc
 ·rename_i ik hu
  injection hc with hc;subst hc;cases ha<;>try (cases oa;done)
  rename_i j x;cases hb<;>try (cases ob;done)
  rename_i j' y;have oa:j=ik:=oa;have ob:j'=ik:=ob;subst oa ob;refine⟨RX x y,?_,?_⟩
  ·rw [qL]
   constructor
   ·intro h;rw [beq_iff_eq.1 h]
   ·intro h;injection h with _ h;subst h;simp
  ·unfold qD
   simp only [hu,Gw,lT]
 ·rename_i hu
  injection hc with hc;subst hc;cases ha<;>try (cases oa;done)
  rename_i x;cases hb<;>try (cases ob;done)
  rename_i y;refine⟨RD x y,?_,?_⟩
  ·rw [yJ]
   constructor
   ·intro h;rw [beq_iff_eq.1 h]
   ·intro h;injection h with h;subst h;simp
  ·unfold qD
   simp only [hu,lT]
 ·rename_i hu
  injection hc with hc;subst hc;cases ha<;>try (cases oa;done)
  rename_i x;cases hb<;>try (cases ob;done)
  rename_i y;refine⟨x==y,?_,?_⟩
  ·constructor
   ·intro h;rw [beq_iff_eq.1 h]
   ·intro h;injection h with h;subst h;simp
  ·unfold qD
   simp only [hu,lT]
 ·cases hc
theorem Xj{k:Bool->Bool}:∀{fs:List Field} {l:List CT} {a b:List V} {a' b':List Value},BG P fs=some l->jQ c S C a a'->jQ c S C b b'->JO l a->JO l b->∃e:Bool,(e=true↔a=b)/\CB P fs a' b' k=k e:=by
 intro fs;induction fs with
 | nil=>
  intro l a b a' b' hl ha hb oa ob;simp [BG]at hl;subst hl;cases a with
  | cons=>cases oa
  | nil=>cases b with
   | cons=>cases ob
   | nil=>exact⟨true,by simp,rfl⟩
 | cons f fs ih=>
  intro l a b a' b' hl ha hb oa ob;unfold BG at hl;split at hl
  ·rename_i ct hct
   split at hl
   ·rename_i l' hl'
    injection hl with hl;subst hl;cases a with
    | nil=>cases oa
    | cons x a=>cases b with
     | nil=>cases ob
     | cons y b=>
      obtain⟨x',a'',rfl,rx,ra⟩:=ha.cons_inv;obtain⟨y',b'',rfl,ry,rb⟩:=hb.cons_inv;obtain⟨e2,g3,g4⟩:=ih hl' ra rb oa.2 ob.2;obtain⟨e1,g1,g2⟩:=aCA hct rx ry oa.1 ob.1 (fun e=>match e with | true=>CB P fs a'' b'' k | false=>k false);refine⟨e1&&e2,?_,?_⟩
      ·rw [Bool.and_eq_true,g1,g3];simp
      ·show qD P f.type x' y' (fun e=>match e with | true=>CB P fs a'' b'' k | false=>k false)=_
       rw [g2];cases e1 with
       | true=>exact g4
       | false=>rfl
   ·cases hl
  ·cases hl
theorem aGi{t:TypeId}{sh:Sz} (hs:keyS P t=some sh){a b:V}{a' b':Value} (ha:fB c S C a a') (hb:fB c S C b b') (oa:KP sh a) (ob:KP sh b) (k:Bool->Bool):∃e:Bool,(e=true↔a=b)/\xC P t a' b' k=k e:=by
 unfold keyS at hs;split at hs
 ·rename_i ct hct
  injection hs with hs;subst hs;obtain⟨e,g1,g2⟩:=aCA hct ha hb oa ob k;refine⟨e,g1,?_⟩;rw [<-g2];unfold xC;split
  ·rename_i xs ys
   cases ha<;>cases ct<;>cases oa
  ·rfl
 ·split at hs
  ·rename_i fs hfs
   split at hs
   ·rename_i l hl
    injection hs with hs;subst hs;cases ha<;>try (cases oa;done)
    cases hb<;>try (cases ob;done)
    rename_i xs xs' la rxa ys ys' lb ryb;obtain⟨e,g1,g2⟩:=Xj (k:=k) hl ⟨la,rxa⟩ ⟨lb,ryb⟩ oa ob;refine⟨e,?_,?_⟩
    ·rw [g1];simp
    ·show nR P t (.agg ⟨xs'⟩) (.agg ⟨ys'⟩) k=_
     unfold nR;simp only [hfs];exact g2
   ·cases hs
  ·cases hs
theorem Nn{ct:CT}{v:V}{w:Value} (r:fB c S C v w) (o:Ql ct v):bH w=true:=by
 cases r<;>first | rfl | (cases ct<;>cases o)
theorem Xk:∀{l:List CT} {a:List V} {a':List Value},jQ c S C a a'->JO l a->a'.all bH=true/\a'.length=l.length:=by
 intro l;induction l with
 | nil=>intro a a' r o;cases a with | cons=>cases o | nil=>rw [r.pB];exact⟨rfl,rfl⟩
 | cons ct l ih=>
  intro a a' r o;cases a with
  | nil=>cases o
  | cons x a=>
   obtain⟨x',a'',rfl,rx,ra⟩:=r.cons_inv;obtain⟨h1,h2⟩:=ih ra o.2;exact⟨by simp [Nn rx o.1,h1],by simp [h2]⟩
theorem Gx:∀{fs:List Field} {l:List CT},BG P fs=some l->fs.length=l.length:=by
 intro fs;induction fs with
 | nil=>intro l h;simp [BG]at h;subst h;rfl
 | cons f fs ih=>
  intro l h;unfold BG at h;split at h
  ·split at h
   ·rename_i hl;injection h with h;subst h;simp [ih hl]
   ·cases h
  ·cases h
theorem Gy{t:TypeId}{sh:Sz} (hs:keyS P t=some sh){a:V}{a':Value} (ha:fB c S C a a') (oa:KP sh a):FB P t a'=true:=by
 unfold keyS at hs;split at hs
 ·rename_i ct hct
  injection hs with hs;subst hs;have hf:=Nn ha oa;have h1:lP a'=true:=by cases a'<;>first | exact hf | (simp [bH]at hf)
  unfold FB;simp only [h1,Xi hct]
 ·rename_i hn
  split at hs
  ·rename_i fs hfs
   split at hs
   ·rename_i l hl
    injection hs with hs;subst hs;cases ha<;>try (cases oa;done)
    rename_i xs xs' la rxa;obtain⟨h1,h2⟩:=Xk ⟨la,rxa⟩ oa;have h1:lP (.agg ⟨xs'⟩)=true:=h1;unfold FB;have h3:Nat.ble fs.length xs'.length=true:=Nat.ble_eq_true_of_le (by rw [Gx hl,h2];exact Nat.le_refl _);simp only [h1];cases nQ P t with
    | true=>rfl
    | false=>simp only [hfs,h3]
   ·cases hs
  ·cases hs
theorem bytes_beq (l:List UInt8):((⟨⟨l⟩⟩:ByteArray)==⟨⟨l⟩⟩)=true:=by
 show ByteArray.beq ⟨⟨l⟩⟩ ⟨⟨l⟩⟩=true;unfold ByteArray.beq;simp
theorem Np{n:Nat}{ct:CT}{v:V}{w:Value} (r:fB c S C v w) (o:Ql ct v):Instr.sameBits n w w=true:=by
 cases r<;>first | (cases ct<;>cases o;done) | (cases n<;>first | exact bytes_beq _ | (simp [Instr.sameBits];done))
theorem Xl{n:Nat}:∀{l:List CT} {a:List V} {a':List Value},jQ c S C a a'->JO l a->((a'.zip a').all fun(x,y)=>Instr.sameBits n x y)=true:=by
 intro l;induction l with
 | nil=>intro a a' r o;cases a with | cons=>cases o | nil=>rw [r.pB];rfl
 | cons ct l ih=>
  intro a a' r o;cases a with
  | nil=>cases o
  | cons x a=>
   obtain⟨x',a'',rfl,rx,ra⟩:=r.cons_inv;simp [Np rx o.1];have:=ih ra o.2;simpa using this
theorem aA9{sh:Sz}{a:V}{a':Value} (ha:fB c S C a a') (oa:KP sh a) (n:Nat):Instr.sameBits (n+1) a' a'=true:=by
 cases sh with
 | one ct=>exact Np ha oa
 | many l=>
  cases ha<;>try (cases oa;done)
  rename_i xs xs' la rxa;have:=Xl (n:=n) (⟨la,rxa⟩:jQ c S C xs xs') oa;simp only [Instr.sameBits];simpa using this
def EsR (c:Cx) (S:St) (C:Nat->Prop) (es:List (V×V)) (es':List MapEntry):Prop:=es.length=es'.length/\∀(k:Nat) (x:V×V) (y:MapEntry),es[k]? =some x->es'[k]? =some y->fB c S C x.1 y.key/\fB c S C x.2 y.val
theorem EsR.tail{x:V×V}{y:MapEntry}{es:List (V×V)}{es':List MapEntry} (r:EsR c S C (x::es) (y::es')):EsR c S C es es':=⟨by simpa using r.1,fun k a b p q=>r.2 (k+1) a b (by simpa using p) (by simpa using q)⟩
theorem Gz{t:TypeId}{sh:Sz} (hs:keyS P t=some sh){a:V}{a':Value} (ha:fB c S C a a') (oa:KP sh a) (k:Option (Nat×MapEntry)->Bool):∀{es:List (V×V)} {es':List MapEntry} (i:Nat),EsR c S C es es'->(∀e∈es,KP sh e.1)->
 (RP es a=none/\(∀x,PF es a x=es++[(a,x)])/\fD (β:=Nat->Bool) (fun _=>k none) (fun e _ ih i=>xC P t a' e.key fun b=>match b with | true=>k (some (i,e)) | false=>cF (Nat.succ i) ih) es' i=k none)\/
 ∃j v e',RP es a=some v/\es'[j]? =some e'/\e'.key=a'/\fB c S C v e'.val/\(∀x,PF es a x=es.set j (a,x))/\fD (β:=Nat->Bool) (fun _=>k none) (fun e _ ih i=>xC P t a' e.key fun b=>match b with | true=>k (some (i,e)) | false=>cF (Nat.succ i) ih) es' i=k (some (i+j,e')):=by
 intro es;induction es with
 | nil=>
  intro es' i r ho;have:es'=[]:=List.eq_nil_of_length_eq_zero (by simpa using r.1.symm);subst this;exact .inl ⟨rfl,fun x=>rfl,rfl⟩
 | cons x es ih=>
  intro es' i r ho;cases es' with
  | nil=>have:=r.1;simp at this
  | cons y es'=>
   have r0:=r.2 0 x y rfl rfl;rw [bG];obtain⟨e,g1,g2⟩:=aGi hs ha r0.1 oa (ho x (.head _)) (fun b=>match b with | true=>k (some (i,y)) | false=>cF (Nat.succ i) (fD (β:=Nat->Bool) (fun _=>k none) (fun e _ ih i=>xC P t a' e.key fun b=>match b with | true=>k (some (i,e)) | false=>cF (Nat.succ i) ih) es'));rw [g2];by_cases he:a=x.1
   ·have:e=true:=g1.2 he
    subst this;refine .inr ⟨0,x.2,y,by simp [RP,he],rfl,?_,r0.2,fun z=>by simp [PF,he],rfl⟩;have:=r0.1;rw [<-he]at this;exact this.fn ha
   ·have:e=false:=by cases e with | false=>rfl | true=>exact absurd (g1.1 rfl) he
    subst this;rw [bI];rcases ih (i+1) r.tail (fun e he=>ho e (.tail _ he))with ⟨q1,q2,q3⟩ | ⟨j,v,e',q1,q2,q3,q4,q5,q6⟩
    ·exact .inl ⟨by simp [RP,he,q1],fun z=>by simp [PF,he,q2 z],q3⟩
    ·refine .inr ⟨j+1,v,e',by simp [RP,he,q1],by simpa using q2,q3,q4,fun z=>by simp [PF,he,q5 z],?_⟩
     rw [show i+(j+1)=i+1+j by omega];exact q6
theorem VS.map (s:VS P B Sb c h S){i:Nat}{es:List (V×V)} (e:h i=some (.map es)):∃b es' ck,c.Zz i=some b/\S.obj b=some (.map es' ck)/\EsR c S (dB B c h) es es':=by
 obtain⟨b,a,a1,a2,a3,a4,es',ck,rfl,_,a5,a6⟩:=s.ob i _ e rfl;exact⟨b,es',ck,a1,a4,a5,a6⟩
theorem VS.aGj (s:VS P B Sb c h S){i:Nat}{es:List (V×V)} (e:h i=some (.map es)):∃b es' ck,c.Zz i=some b/\S.obj b=some (.map es' ck)/\EsR c S (dB B c h) es es'/\EL es' ck:=by
 obtain⟨b,a,a1,a2,a3,a4,es',ck,rfl,a7,a5,a6⟩:=s.ob i _ e rfl;exact⟨b,es',ck,a1,a4,⟨a5,a6⟩,a7⟩
theorem Xm{b:Nat}{es:List MapEntry}{ck:Nat} (e:S.obj b=some (.map es ck)) (k:Option Nat->List MapEntry->Nat->Bool):ZF S (.map (some b)) k=k (some b) es ck:=by
 show oV S.h b _=_;rw [nF];have e:S.h.get b=some (.map es ck):=e;rw [e]
theorem Rb (s:VS P B Sb c h S){t kt et:TypeId}{sh:Sz}{z:Value}{zv:V}{ok:Bool} (ht:FH P t=some (kt,et)) (hs:keyS P kt=some sh) (hz:zeroV P et=some z) (hzv:ofC z=some zv){m a:V}{w u:Value} (r:fB c S (dB B c h) m w) (q:fB c S (dB B c h) a u){Kv:KV}{K:VK} (k:KR P B Sb c h S Kv K) (hv:MZ sh zv ok m a h Kv):HN P t w u ok S K=true:=by
 unfold MZ at hv;split at hv
 ·rename_i i
  cases r with
  | rS hZ=>
   split at hv
   ·rename_i es e
    obtain⟨oa,ho,hv1,hv2⟩:=hv;obtain⟨b,es',ck,a1,a2,a3⟩:=s.map e;rw [hZ]at a1;injection a1 with a1;subst a1;obtain⟨hf,rz⟩:=Wm (c:=c) (S:=S) (C:=dB B c h) hzv;unfold HN;simp only [ht,hz,Gy hs q oa];rw [Xm a2];unfold PZ
    rcases Gz hs q oa (fun r=>match(generalizing:=false) r with
     | some (_,e)=>match(generalizing:=false) ok with | true=>K (.tuple ⟨[e.val,.bool true]⟩) S | false=>K e.val S
     | none=>match(generalizing:=false) lP z with
      | true=>match(generalizing:=false) ok with | true=>K (.tuple ⟨[z,.bool false]⟩) S | false=>K z S
      | false=>false) 0 a3 ho with ⟨q1,_,q3⟩ | ⟨j,v,e',q1,q2,q3,q4,_,q6⟩
    ·refine q3.trans ?_
     simp only [hf];cases ok with
     | true=>exact k.here s (.tuple (jQ.cons rz (.cons .bool .nil)).len (jQ.cons rz (.cons .bool .nil)).rd) (hv2 q1)
     | false=>exact k.here s rz (hv2 q1)
    ·refine q6.trans ?_
     cases ok with
     | true=>exact k.here s (.tuple (jQ.cons q4 (.cons .bool .nil)).len (jQ.cons q4 (.cons .bool .nil)).rd) (hv1 v q1)
     | false=>exact k.here s q4 (hv1 v q1)
   ·cases hv
 ·cases hv
theorem Ki (s:VS P B Sb c h S){t kt et:TypeId}{sh:Sz} (ht:FH P t=some (kt,et)) (hs:keyS P kt=some sh){m a x:V}{w u y:Value} (r:fB c S (dB B c h) m w) (q:fB c S (dB B c h) a u) (rx:fB c S (dB B c h) x y){Kv:KV}{K:VK} (k:KR P B Sb c h S Kv K) (hv:PG sh m a x h fun h=>Kv yM h):vD P t w u y S (fun S=>K undef S)=true:=by
 unfold PG at hv;split at hv
 ·rename_i i
  cases r with
  | rS hZ=>
   split at hv
   ·rename_i es e
    obtain⟨oa,ho,hv⟩:=hv;obtain⟨b,es',ck,a1,a2,a3,a8⟩:=s.aGj e;have a1':=a1;rw [hZ]at a1;injection a1 with a1;subst a1;unfold vD;simp only [ht,Gy hs q oa];rw [Xm a2];simp only;unfold PZ
    have fin:∀es2 ck2,EL es2 ck2->EsR c S (dB B c h) (PF es a x) es2->K undef (S.set _ (.map es2 ck2))=true:=fun es2 ck2 b2 r2=>by
     obtain⟨s1,f1⟩:=s.Gh e rfl hZ (o:= .map (PF es a x)) rfl (ao:= .map es2 ck2) fun S' C' f=>⟨es2,ck2,rfl,b2,r2.1,fun k x y p q=>⟨(r2.2 k x y p q).1.mono (.refl c) f,(r2.2 k x y p q).2.mono (.refl c) f⟩⟩;exact k c _ _ yM undef (.refl c) f1 s1 (.tuple (a':=[]) rfl fun k v w e=>by simp at e) hv
    rcases Gz hs q oa (fun f=>match f with
     | some (i,e)=>match Instr.sameBits 10000 e.key u with
      | true=>Lt {e with val:=y} es' i fun es=>pV S _ (.map es ck) fun S=>K undef S
      | false=>false
     | none=>uM es' [{key:=u,val:=y,born:=ck}] fun es=>cF (Nat.succ ck) fun c=>pV S _ (.map es c) fun S=>K undef S) 0 a3 ho with ⟨q1,q2,q3⟩ | ⟨j,v,e',q1,q2,q3,q4,q5,q6⟩
    ·refine q3.trans ?_
     rw [jJ,bI,fS];refine fin _ _ (a8.app rfl) ?_;rw [q2 x];refine⟨by simp [a3.1],fun k p p' e1 e2=>?_⟩;by_cases hk:k<es.length
     ·rw [List.getElem?_append_left hk]at e1
      rw [List.getElem?_append_left (by rw [<-a3.1];exact hk)]at e2;exact a3.2 k p p' e1 e2
     ·rw [List.getElem?_append_right (by omega)]at e1
      rw [List.getElem?_append_right (by rw [<-a3.1];omega),<-a3.1]at e2;cases hq:k-es.length with
      | zero=>
       rw [hq]at e1 e2;simp at e1 e2;subst e1 e2;exact⟨q,rx⟩
      | succ n=>rw [hq]at e1;simp at e1
    ·refine q6.trans ?_
     simp only [Nat.zero_add,q3];rw [aA9 q oa 9999];simp only;rw [SY,fS];refine fin _ _ (a8.set q2 rfl) ?_;rw [q5 x];refine⟨by simp [a3.1],fun k p p' e1 e2=>?_⟩;by_cases hk:k=j
     ·subst hk
      rw [List.getElem?_set,if_pos rfl]at e1 e2;split at e1
      ·rename_i hlt
       rw [if_pos (by rw [<-a3.1];exact hlt)]at e2;injection e1 with e1;injection e2 with e2;subst e1 e2;exact⟨q,rx⟩
      ·cases e1
     ·rw [List.getElem?_set_ne (Ne.symm hk)]at e1 e2
      exact a3.2 k p p' e1 e2
   ·cases hv
 ·cases hv
theorem Gq (s:VS P B Sb c h S){Kv:KV}{K:VK} (k:KR P B Sb c h S Kv K) (hv:Bg h Kv):qW S (.map [] 0) (fun i S=>K (.map (some i)) S)=true:=by
 obtain⟨i,e1,e2,e3⟩:=s.fresh;obtain⟨s1,l1,f1,i1⟩:=s.Wj e1 e2 e3 (o:= .map []) (ao:= .map [] 0) rfl fun _ _ _ _ _=>⟨[],0,rfl,⟨.nil,fun e he=>by cases he⟩,rfl,fun k x y p=>by simp at p⟩;rw [gD];exact k _ _ _ _ _ l1 f1 s1 (.rS i1) (hv i e1)
theorem Xa{op:BinOp}{t:TypeId}{a b:V}{u w:Value} (r:fB c S C a u) (q:fB c S C b w){Kv:V->Prop}{K:Value->Bool} (k:∀v w,fB c S C v w->Kv v->K w=true) (hv:Qm P op t a b Kv):Up P op t u w K=true:=by
 rw [EA];unfold Qm at hv;split at hv
 ·rename_i l hl
  cases r<;>try (cases hv;done)
  rename_i xs xs' la rxa;cases q<;>try (cases hv;done)
  rename_i ys ys' lb ryb;obtain⟨ox,oy,hv⟩:=hv;unfold keyS at hl;split at hl
  ·cases hl
  ·split at hl
   ·rename_i fs hfs
    split at hl
    ·rename_i l' hl'
     injection hl with hl;injection hl with hl;subst hl
     have eq:∀kk:Bool->Bool,∃e:Bool,(e=true↔xs=ys)/\nR P t (.agg ⟨xs'⟩) (.agg ⟨ys'⟩) kk=kk e:=fun kk=>by
      obtain⟨e,g1,g2⟩:=Xj (k:=kk) hl' ⟨la,rxa⟩ ⟨lb,ryb⟩ ox oy;refine⟨e,g1,?_⟩;unfold nR;simp only [hfs];exact g2
     cases op<;>first | (cases hv;done) | skip
     ·show nR P t (.agg ⟨xs'⟩) (.agg ⟨ys'⟩) (fun e=>lY e K)=true
      obtain⟨e,g1,g2⟩:=eq fun e=>lY e K;rw [g2,pK];cases e with
      | true=>exact k _ _ .bool (hv.1 (g1.1 rfl))
      | false=>exact k _ _ .bool (hv.2 fun h=>by have:=g1.2 h;cases this)
     ·show nR P t (.agg ⟨xs'⟩) (.agg ⟨ys'⟩) (fun e=>lY (!e) K)=true
      obtain⟨e,g1,g2⟩:=eq fun e=>lY (!e) K;rw [g2,pK];cases e with
      | true=>exact k _ _ .bool (hv.1 (g1.1 rfl))
      | false=>exact k _ _ .bool (hv.2 fun h=>by have:=g1.2 h;cases this)
    ·cases hl
   ·cases hl
 ·cases hv
end
section
variable{P:Program}{B:Nat->Prop}{Sb:St}{c c' d:Cx}{h h':Hp}{S S':St}{C C':Nat->Prop}
theorem Bw (s:VS P B Sb c h S) (l:dL h' h){O:Nat->Tag} (le:c.le d) (e:dB B d h'=dB B c h'){vs us:List V}{ws:List Value} (ht:∀(k:Nat) (w:Value),ws[k]? =some w->KW d S (dB B d h') (O k) w)
 (r:jQ c S (dB B c h) vs ws) (hf:FzL h' h O vs us):jQ d S (dB B d h') us ws:=by
 have f2:uN (dB B c h) S S (dB B d h'):=by rw [e];exact(s.drop l).2
 obtain⟨g1,g2⟩:=hf;refine⟨by rw [g1];exact r.len,fun k u w e1 e2=>?_⟩;have hk:k<vs.length:=by rw [<-g1];exact(List.getElem?_eq_some_iff.1 e1).1
 have ev:=List.getElem?_eq_getElem hk;have hr:=r.rd k _ w ev e2;have hz:=g2 k _ u ev e1;cases hz with
 | keep=>exact hr.mono le f2
 | dat hfz=>
  have:=s.frz l hfz hr;exact aDo (by rw [e];exact this) (ht k w e2)
def Gn:Value->List Value
 | .agg ⟨l⟩=>l
 | .tuple ⟨l⟩=>l
 | w=>[w]
theorem aDp (s:VS P B Sb c h S) (l:dL h' h){v:V}{w:Value}{u:(Nat->Tag)->V} (r:fB c S (dB B c h) v w) (hf:∀O,Fz h' h O v (u O)):
 ∃d O,c.le d/\VS P B Sb d h' S/\uN (dB B c h) S S (dB B d h')/\fB d S (dB B d h') (u O) w:=by
 obtain⟨s1,f1⟩:=s.drop l;obtain⟨d,O,le,s2,e,ht⟩:=s1.names (Gn w);have f2:uN (dB B c h) S S (dB B d h'):=by rw [e];exact f1
 refine⟨d,O,le,s2,f2,?_⟩;have hz:=hf O;generalize u O=x at hz;cases hz with
 | one hz=>
  cases hz with
  | keep=>exact r.mono le f2
  | dat hfz=>
   have hd:=s.frz l hfz r;have hp:Gn w=[w]:=by cases hd<;>rfl
   exact aDo (by rw [e];exact hd) (ht 0 w (by rw [hp];rfl))
 | agg hz=>
  cases r with
  | agg la ha=>
   have:=Bw s l le e ht ⟨la,ha⟩ hz;exact .agg this.len this.rd
 | tup hz=>
  cases r with
  | tuple la ha=>
   have:=Bw s l le e ht ⟨la,ha⟩ hz;exact .tuple this.len this.rd
structure ER (P:Program) (B:Nat->Prop) (Sb:St) (Ev:VE) (E:Env):Prop where
 eP:E.P=P
 eM:Ev.most=E.most
 eC:∀(f:FuncId) {args:List V} {ws:List Value} {c:Cx} {h:Hp} {S:St} {Kv:KV} {K:VK},VS P B Sb c h S->jQ c S (dB B c h) args ws->KR P B Sb c h S Kv K->Ev.C f args h Kv->E.call f ws S K=true
 eR:∀(l b:Nat) {args:List V} {ws:List Value} {c:Cx} {h:Hp} {S:St} {Kv:KV} {K:VK},VS P B Sb c h S->c.Zz l=some b->jQ c S (dB B c h) args ws->KR P B Sb c h S Kv K->Ev.R l args h Kv->E.round b ws S K=true
theorem ER.call'{Ev:VE}{E:Env} (r:ER P B Sb Ev E) (f:FuncId){args:List V}{ws:List Value}{Kv:KV}{K:VK} (s:VS P B Sb c h S) (ra:jQ c S (dB B c h) args ws) (k:KR P B Sb c h S Kv K) (hv:Ev.call f args h Kv):E.call f ws S K=true:=by
 obtain⟨h',us,l,hf,hv⟩:=hv;obtain⟨s1,f1⟩:=s.drop l;obtain⟨d,O,le,s2,e,ht⟩:=s1.names ws;have f2:uN (dB B c h) S S (dB B d h'):=by rw [e];exact f1
 exact r.eC f s2 (Bw s l le e ht ra (hf O)) (fun c' h' S' v w a b=>k c' h' S' v w (le.trans a) (f2.trans b)) (hv O)
theorem Ra{Ev:VE}{E:Env} (r:ER P B Sb Ev E){A:VA}{A':aX} (s:VS P B Sb c h S) (a:AR c S (dB B c h) A A'){cl:Call}{Kv:KV}{K:VK} (k:KR P B Sb c h S Kv K) (hv:(Wb P cl).f Ev A h Kv):kR E A' cl S K=true:=by
 have hP:=r.eP;subst hP;unfold Wb at hv;split at hv
 ·rename_i hc
  split at hv
  ·rename_i t x ht ha
   unfold kR;rw [hc,ha,ht];simp only [IR,bG,rQ];split at hv
   ·rename_i _ _ e hs
    refine bO a hv fun v w rv hv=>?_;rw [Ul hs];exact Qy s rv (fun v w rv h=>k.here s rv h) hv
   ·rename_i _ _ hs hu
    refine bO a hv fun v w rv hv=>?_;rw [Um hu];exact Qz rv (fun v w rv h=>k.here s rv h) hv
   ·cases hv
  ·cases hv
 ·rename_i hc
  split at hv
  ·rename_i sT xT x y ht ha
   unfold kR;rw [hc,ha,ht];simp only [IR,bG,rQ];split at hv
   ·rename_i el hs hx
    split at hv
    ·rename_i info hi
     split at hv
     ·rename_i n z hn hz
      split at hv
      ·rename_i hzs hsz
       have hsz:bQ E.P el=some (n+1):=by
        have:=Nat.eq_of_beq_eq_true hsz;cases hq:bQ E.P el with
        | none=>rw [hq]at this;simp at this
        | some m=>rw [hq]at this;simp at this;rw [this]
       refine bO a hv fun v w rv hv=>?_;refine bO a hv fun v2 w2 QV hv=>?_;show DJ E.P [sT,xT] w w2 S K=true;rw [YH hs hx hi hn hz hzs];exact Wu s (by omega) hsz rv QV k hv
      ·cases hv
     ·cases hv
    ·cases hv
   ·cases hv
  ·cases hv
 ·rename_i hc
  split at hv
  ·rename_i x y ha
   unfold kR;rw [hc,ha];simp only [IR,bG,rQ];refine bO a hv fun v w rv hv=>?_;refine bO a hv fun v2 w2 QV hv=>?_;exact Gm (big:=false) rv QV (fun v w rv h=>k.here s rv h) hv
  ·cases hv
 ·rename_i hc
  split at hv
  ·rename_i x y ha
   unfold kR;rw [hc,ha];simp only [IR,bG,rQ];refine bO a hv fun v w rv hv=>?_;refine bO a hv fun v2 w2 QV hv=>?_;exact Gm (big:=true) rv QV (fun v w rv h=>k.here s rv h) hv
  ·cases hv
 ·rename_i hc
  split at hv
  ·rename_i t x ht ha
   unfold kR;rw [hc,ha,ht];simp only [IR,bG,rQ];split at hv
   ·rename_i el hs
    split at hv
    ·rename_i m zero hsz hz
     split at hv
     ·rename_i hl hf
      refine bO a hv fun v w rv hv=>?_;exact Kg s hs hsz hz hl hf rv (fun h' S' f s' hv=>k c h' S' yM (.tuple #[]) (.refl c) f s' (.tuple (a':=[]) rfl fun k v w e=>by simp at e) hv) hv
     ·cases hv
    ·cases hv
   ·cases hv
  ·cases hv
 ·cases hv
 ·rename_i f hc
  unfold kR;rw [hc];refine NB a hv fun vs ws ra hv=>?_;refine bO a hv fun v w rv hv=>?_;unfold PK at hv;split at hv
  ·cases rv with
   | func la ld ha hd=>
    show(uM _ ws fun l=>uM l _ fun l=>E.call _ l S K)=true;rw [jJ,jJ];exact r.call' _ s ((jQ.app ⟨la,ha⟩ ra).app ⟨ld,hd⟩) k hv
  ·cases rv with
   | yield e=>exact r.eR _ _ s e ra k hv
  ·cases hv
 ·rename_i rc m hc
  unfold kR;rw [hc];refine NB a hv fun vs ws ra hv=>?_;refine bO a hv fun v w rv hv=>?_;unfold aGa at hv;split at hv
  ·rename_i t v'
   split at hv
   ·rename_i g hg
    cases rv with
    | iface rv=>
     show(match zH E.P t m with | some g=>E.call g _ S K | none=>false)=true;rw [hg];exact r.call' _ s (.cons rv ra) k hv
   ·cases hv
  ·cases hv
theorem BI{A:VA}{A':aX} (a:AR c S C A A'){x:Option Operand}{k:Option V->Prop}{k':Option Value->Bool} (hv:(evO x).f A k) (hk:∀o o',OR' c S C o o'->k o->k' o'=true):KF A' x k'=true:=by
 cases x with
 | none=>exact hk _ _ .none hv
 | some x=>exact bO a hv fun v w rv hv=>hk _ _ (.some rv) hv
theorem Kh{A:VA}{A':aX} (s:VS P B Sb c h S) (a:AR c S (dB B c h) A A'){Ev:VE}{t:TypeId}{x:Operand}{lo hi mx:Option Operand}{Kv:KV}{K:VK} (k:∀v w,fB c S (dB B c h) v w->Kv v h->K w S=true) (hv:(Jw P t x lo hi mx).f Ev A h Kv):
 pT A' x (fun x=>KF A' lo fun lo=>KF A' hi fun hi=>KF A' mx fun mx=>rG P t x lo hi mx S fun v=>K v S)=true:=by
 unfold Jw at hv;split at hv
 ·rename_i el he
  split at hv
  ·rename_i size hs
   refine bO a hv fun v w rv hv=>?_;refine BI a hv fun o1 o1' r1 hv=>?_;refine BI a hv fun o2 o2' r2 hv=>?_;refine BI a hv fun o3 o3' r3 hv=>?_;exact Wx s he hs rv r1 r2 r3 k hv
  ·cases hv
 ·split at hv
  ·rename_i hu
   split at hv
   ·refine bO a hv fun v w rv hv=>?_
    refine BI a hv fun o1 o1' r1 hv=>?_;refine BI a hv fun o2 o2' r2 hv=>?_;exact Wz hu rv r1 r2 k hv
   ·cases hv
  ·rename_i len el hu
   split at hv
   ·rename_i size hs
    refine bO a hv fun v w rv hv=>?_;refine BI a hv fun o1 o1' r1 hv=>?_;refine BI a hv fun o2 o2' r2 hv=>?_;refine BI a hv fun o3 o3' r3 hv=>?_;exact Wy hu hs rv r1 r2 r3 k hv
   ·cases hv
  ·cases hv
theorem UO{A:VA}{A':aX} (s:VS P B Sb c h S) (a:AR c S (dB B c h) A A'){Ev:VE}{t:TypeId}{x y:Operand}{Kv:KV}{K:VK} (k:KR P B Sb c h S Kv K) (hv:(KU P t x y).f Ev A h Kv):
 pT A' x (fun l=>pT A' y fun c=>qJ P t l c S K)=true:=by
 unfold KU at hv;split at hv
 ·rename_i el he
  split at hv
  ·rename_i info zero hi hz
   split at hv
   ·rename_i n hl hn hf
    refine bO a hv fun v w rv hv=>?_;refine bO a hv fun v2 w2 QV hv=>?_;exact aA6 s he hi hz hl hn hf rv QV k hv
   ·cases hv
  ·cases hv
 ·cases hv
theorem Gp{A:VA}{A':aX} (s:VS P B Sb c h S) (a:AR c S (dB B c h) A A'){Ev:VE}{t:TypeId}{x ix:Operand}{ok:Bool}{Kv:KV}{K:VK} (k:KR P B Sb c h S Kv K) (hv:(Bp P t x ix ok).f Ev A h Kv):
 pT A' x (fun x=>pT A' ix fun ix=>HN P t x ix ok S K)=true:=by
 unfold Bp at hv;split at hv
 ·rename_i kt et ht
  split at hv
  ·rename_i sh z hs hz
   split at hv
   ·rename_i zv hzv
    refine bO a hv fun v w rv hv=>?_;refine bO a hv fun v2 w2 QV hv=>?_;exact Rb s ht hs hz hzv rv QV k hv
   ·cases hv
  ·cases hv
 ·cases hv
theorem UP{A:VA}{A':aX} (s:VS P B Sb c h S) (a:AR c S (dB B c h) A A'){Ev:VE}{t:TypeId}{m x y:Operand}{Kv:KV}{K:VK} (k:KR P B Sb c h S Kv K) (hv:(Bq P t m x y).f Ev A h Kv):
 pT A' m (fun m=>pT A' x fun x=>pT A' y fun y=>vD P t m x y S fun S=>K undef S)=true:=by
 unfold Bq at hv;split at hv
 ·rename_i kt et ht
  split at hv
  ·rename_i sh hs
   refine bO a hv fun v w rv hv=>?_;refine bO a hv fun v2 w2 QV hv=>?_;refine bO a hv fun v3 w3 rv3 hv=>?_;exact Ki s ht hs rv QV rv3 k hv
  ·cases hv
 ·cases hv
theorem ND{Ev:VE}{E:Env} (r:ER P B Sb Ev E){A:VA}{A':aX} (s:VS P B Sb c h S) (a:AR c S (dB B c h) A A'){o:Oper}{Kv:KV}{K:VK} (k:KR P B Sb c h S Kv K) (hv:(Qv P o).f Ev A h Kv):rP E o A' S K=true:=by
 have kh:∀v w,fB c S (dB B c h) v w->Kv v h->K w S=true:=fun v w rv hk=>k.here s rv hk;unfold Qv at hv;have hP:=r.eP;subst hP;split at hv<;>rename_i hop<;>try (unfold rP;rw [hop])
 ·exact bO a hv kh
 ·exact bO a hv kh
 ·refine bO a hv fun v w rv hv=>?_
  refine bO a hv fun v1 w1 rv1 hv=>?_;refine bO a hv fun v2 w2 QV hv=>?_;rw [bD]at hv;unfold aL at hv;split at hv
  ·rename_i b hva hvb
   cases rv;cases b with
   | true=>exact kh _ _ rv1 hv
   | false=>exact kh _ _ QV hv
  ·cases hv
 ·split at hv
  ·rename_i z hz
   split at hv
   ·rename_i hf
    show FR E.P _ S K=true;rw [Ff hz hf];exact Kb s k hv
   ·cases hv
  ·cases hv
 ·exact bO a hv fun v w rv hv=>Wn s rv k hv
 ·have hx:(Jb E.P o).f E A' S K=rP E o A' S K:=GL E o A' S K
  unfold rP at hx;rw [hop]at hx;simp only at hx ⊢;rw [<-hx];unfold Jb;rw [hop];simp only;split at hv
  ·rename_i zero fields hz hu
   simp only [hz,hu];split at hv
   ·rename_i pl hp
    simp only [hp];split at hv
    ·rename_i hf ha
     simp only [hf,ha];exact KX a hv fun l l' hl hv=>UL s hl kh hv
    ·cases hv
   ·cases hv
  ·rename_i zero n elem hz hu
   simp only [hz,hu];split at hv
   ·rename_i size hs
    simp only [hs];split at hv
    ·rename_i hf
     simp only [hf];exact KX a hv fun l l' hl hv=>UL s hl kh hv
    ·cases hv
   ·cases hv
  ·cases hv
 ·have hx:(Jb E.P o).f E A' S K=rP E o A' S K:=GL E o A' S K
  unfold rP at hx;rw [hop]at hx;simp only at hx ⊢;rw [<-hx];unfold Jb;rw [hop];simp only;split at hv
  ·rename_i elem hs
   simp only [hs];split at hv
   ·rename_i size zero hz hzl
    simp only [hz,hzl];split at hv
    ·rename_i h1 h2
     simp only [h1,h2];split at hv
     ·rename_i hf
      simp only [hf];rw [vS];refine KX a hv fun l l' hl hv=>?_;have:=Gk (Sb:=Sb) (B:=B) s hl k hv;unfold As at this
      rwa [vS]at this
     ·cases hv
    ·cases hv
   ·cases hv
  ·cases hv
 ·split at hv
  ·rename_i h1
   refine bO a hv fun v w rv hv=>?_;show CA E.P _ w S K=true;rw [OU h1];exact Nk s rv kh hv
  ·rename_i n h1 h2
   refine bO a hv fun v w rv hv=>?_;show CA E.P _ w S K=true;rw [OV h1 h2];exact Gj s (by omega) rv kh hv
  ·cases hv
 ·split at hv
  ·rename_i n h1
   refine bO a hv fun v w rv hv=>?_;refine bO a hv fun v2 w2 QV hv=>?_;show KE E.P _ w w2 S _=true;rw [Fe h1];refine aA4 s rv QV (fun h' S' f s' hk=>?_) hv;exact k c h' S' yM undef (.refl c) f s' (.tuple (a':=[]) rfl fun k v w e=>by simp at e) hk
  ·cases hv
 ·refine bO a hv fun v w rv hv=>?_
  show aAD E.P w (fun v=>K v S)=true;exact Wv rv kh hv
 ·split at hv
  ·refine bO a hv fun v w rv hv=>?_
   refine bO a hv fun v2 w2 QV hv=>?_;rw [<-EA];exact Xa rv QV kh hv
  ·refine bO a hv fun v w rv hv=>?_
   refine bO a hv fun v2 w2 QV hv=>?_;rw [<-EA];exact Ww s.Gs rv QV kh hv
 ·exact bO a hv fun v w rv hv=>aA5 rv kh hv
 ·split at hv
  ·rename_i j kk h1 h2
   refine bO a hv fun v w rv hv=>?_;rw [Mo h1 h2];exact Ws rv kh hv
  ·cases hv
 ·split at hv
  ·rename_i t x hv0 hi
   refine bO a hv fun v w rv hv=>?_;unfold Ge at hi;split at hi
   ·cases hi
   ·rename_i d hd hu
    have hw:=kh _ _ (.iface (t:=t) rv) hv;simp only [hu];cases d<;>first | exact hw | exact(hd _ rfl).elim
   ·cases hi
  ·cases hv
 ·split at hv
  ·refine NB a hv fun vs ws ra hv=>?_
   refine NB a hv fun vs2 ws2 ra2 hv=>?_;exact kh _ _ (.func ra.len ra2.len ra.rd ra2.rd) hv
  ·split at hv
   ·rename_i x h1 h2
    simp only [h1,h2];exact bO a hv fun v w rv hv=>kh _ _ (.meth rv) hv
   ·cases hv
  ·cases hv
 ·split at hv
  ·rename_i fd hf
   split at hv
   ·rename_i n hn
    refine bO a hv fun v w rv hv=>?_;rw [MP hf hn];exact Wo rv kh hv
   ·cases hv
  ·cases hv
 ·split at hv
  ·rename_i fd hf
   split at hv
   ·rename_i h1
    refine bO a hv fun v w rv hv=>?_;rw [TU hf h1];exact Kc rv kh hv
   ·rename_i n h1 h2
    refine bO a hv fun v w rv hv=>?_;rw [TW hf h1 h2];exact Gl rv kh hv
   ·cases hv
  ·cases hv
 ·split at hv
  ·rename_i el he
   split at hv
   ·rename_i n hn
    refine bO a hv fun v w rv hv=>?_;refine bO a hv fun v2 w2 QV hv=>?_;rw [MR he hn];exact Wp s rv QV kh hv
   ·cases hv
  ·cases hv
 ·split at hv
  ·rename_i hu
   refine bO a hv fun v w rv hv=>?_;refine bO a hv fun v2 w2 QV hv=>?_;rw [Fh hu];exact Kd rv QV kh hv
  ·cases hv
 ·split at hv
  ·rename_i t x lo hi mx _ hb
   have:=Kh s a kh hv;unfold aCw at hb;cases mx<;>cases hi<;>first | exact this | cases hb
  ·cases hv
 ·exact UO s a k hv
 ·exact Gq s k hv
 ·exact Gp s a k hv
 ·exact UP s a k hv
 ·exact UP s a k hv
 ·refine bO a hv fun v w rv hv=>?_
  show Ur _ w (fun v=>K v S)=true;exact Wq rv kh hv
 ·exact Ra r s a k hv
 ·cases hv
end
section
variable{P:Program}{B:Nat->Prop}{Sb:St}{c c' d:Cx}{h h':Hp}{S S':St}{C C':Nat->Prop}
def KSR (P:Program) (B:Nat->Prop) (Sb:St) (c:Cx) (h:Hp) (S:St) (kv:KSV) (k:aX->St->Bool):Prop:=
 ∀c' h' S' A A',c.le c'->uN (dB B c h) S S' (dB B c' h')->VS P B Sb c' h' S'->AR c' S' (dB B c' h') A A'->kv A h'->k A' S'=true
theorem KSR.mono{kv:KSV}{k:aX->St->Bool} (q:KSR P B Sb c h S kv k) (l:c.le c') (f:uN (dB B c h) S S' (dB B c' h')):KSR P B Sb c' h' S' kv k:=
 fun c2 h2 S2 A A' l2 f2=>q c2 h2 S2 A A' (l.trans l2) (f.trans f2)
theorem UQ (s:VS P B Sb c h S){v:V}{w:Value} (r:fB c S C v w) (ho:SF v=true) (n:Nat):QG n w w=true:=by
 have hsl:∀b o n m,MH (.slice (some ⟨b,o,none⟩) n m) (.slice (some ⟨b,o,none⟩) n m)=true:=fun b o n m=>by
  show((Nat.beq b b&&Nat.beq o o)&&(Nat.beq n n&&Nat.beq m m))=true;simp
 have hs0:∀b o n m,MH (.slice (some ⟨b,o,some 0⟩) n m) (.slice (some ⟨b,o,some 0⟩) n m)=true:=fun b o n m=>by
  show((Nat.beq b b&&Nat.beq o o)&&(Nat.beq n n&&Nat.beq m m))=true;simp
 have hse:∀b o s,MH (.slice (some ⟨b,o,some (s+2)⟩) 0 0) (.slice (some ⟨b,o,some (s+2)⟩) 0 0)=true:=fun b o s=>by
  show((Nat.beq b b&&Nat.beq o o)&&Nat.beq s s)=true;simp
 have hpt:∀b o,MH (.pointer (some ⟨b,o,none⟩)) (.pointer (some ⟨b,o,none⟩))=true:=fun b o=>by
  show(Nat.beq b b&&Nat.beq o o)=true;simp
 have hmp:∀b,MH (.map (some b)) (.map (some b))=true:=fun b=>by
  show Nat.beq b b=true;simp
 cases r with
 | @int k z=>cases n<;>exact Px k z
 | @bool b=>cases n<;>cases b<;>rfl
 | str=>cases n<;>(show RD _ _=true;rw [yJ];simp)
 | list ht hd=>
  cases hd with
  | nil=>cases n<;>rfl
  | emp=>cases n<;>exact hse _ _ _
  | @row b o n' cc sp _ _ _ _ hsp _ _ _ _ _ _=>
   match sp,hsp with
   | none,_=>cases n<;>exact hsl _ _ _ _
   | some 0,_=>cases n<;>exact hs0 _ _ _ _
 | tS=>cases n<;>exact hpt _ _
 | nV=>cases n<;>exact hpt _ _
 | nil=>cases n<;>rfl
 | acc e=>obtain⟨b,rfl⟩:=s.Gs _ _ _ e;cases n<;>exact hs0 _ _ _ _
 | own=>cases n<;>exact hsl _ _ _ _
 | FN=>cases n<;>exact hs0 _ _ _ _
 | ptr=>cases n<;>exact hpt _ _
 | pW=>cases n<;>rfl
 | XB=>cases n<;>rfl
 | GQ=>cases n<;>rfl
 | XC=>cases n<;>rfl
 | rS=>cases n<;>exact hmp _
 | _=>cases ho
theorem SK{p:V->Bool}{q:Value->Prop}{a:List V}{a':List Value} (r:jQ c S C a a') (hp:a.all p=true) (hq:∀v w,fB c S C v w->p v=true->q w):∀w∈a',q w:=by
 intro w hw;obtain⟨k,hk⟩:=List.getElem?_of_mem hw;have hlt:=(List.getElem?_eq_some_iff.1 hk).1;have hl:=r.len;exact hq a[k] w (r.rd k a[k] w (List.getElem?_eq_getElem (by omega)) hk) (List.all_eq_true.1 hp _ (List.getElem_mem (by omega)))
theorem UR{f:Value->Value->Bool}:∀{l:List Value},(∀w∈l,f w w=true)->sameAll f l l=true:=by
 intro l;induction l with
 | nil=>intro _;rfl
 | cons x l ih=>
  intro h;show(f x x&&sameAll f l l)=true;rw [h x (.head _),ih fun y hy=>h y (.tail _ hy)];rfl
theorem Gr (s:VS P B Sb c h S){v:V}{w:Value} (r:fB c S C v w) (ho:SG v=true):Ek w w=true:=by
 unfold SG at ho;split at ho
 ·rename_i f a d
  rw [Bool.and_eq_true]at ho;cases r with
  | @func _ _ _ a' d' la ld ha hd=>
   show(Nat.beq f f&&(sameAll (QG 2) a' a'&&sameAll (QG 2) d' d'))=true;rw [UR (SK (⟨la,ha⟩:jQ c S C a a') ho.1 fun v w r o=>UQ s r o 2),UR (SK (⟨ld,hd⟩:jQ c S C d d') ho.2 fun v w r o=>UQ s r o 2)];simp
 ·exact UQ s r ho 3
theorem Gt (s:VS P B Sb c h S){v:V}{w:Value} (r:fB c S C v w) (ho:SH v=true):YA w w=true:=by
 unfold SH at ho;split at ho
 ·rename_i cs
  cases r with
  | @agg _ a' la ha=>
   show XZ a' a'=true;have hall:=SK (⟨la,ha⟩:jQ c S C cs a') ho fun v w r o=>Gr s r o;clear la ha;induction a' with
   | nil=>rfl
   | cons x l ih=>
    show(Ek x x&&XZ l l)=true;rw [hall x (.head _),ih fun y hy=>hall y (.tail _ hy)];rfl
 ·rename_i hne
  have h0:=Gr s r ho;cases w<;>first | exact h0 | (cases r<;>first | exact absurd rfl (hne _) | (rename_i e;obtain⟨b,e⟩:=s.Gs _ _ _ e;cases e) | (rename_i ht hd;cases hd))
theorem Xb (s:VS P B Sb c h S){v:V}{w:Value} (r:fB c S C v w) (ho:UG v=true):GF w w=true:=by
 unfold UG at ho;split at ho
 ·rename_i cs
  cases r with
  | @tuple _ a' la ha=>
   show OM a' a'=true;have hall:=SK (⟨la,ha⟩:jQ c S C cs a') ho fun v w r o=>Gt s r o;clear la ha;induction a' with
   | nil=>rfl
   | cons x l ih=>
    show(YA x x&&OM l l)=true;rw [hall x (.head _),ih fun y hy=>hall y (.tail _ hy)];rfl
 ·rename_i hne
  have h0:=Gt s r ho;cases w<;>first | exact h0 | (cases r<;>first | exact absurd rfl (hne _) | (rename_i e;obtain⟨b,e⟩:=s.Gs _ _ _ e;cases e) | (rename_i ht hd;cases hd))
theorem US{ops:Array Oper}{o:Oper}{A:aX}{k:Bool->Bool} (hg:o.guard=none):xL ops o A k=k true:=by
 unfold xL;rw [hg]
theorem Nl{ops:Array Oper}{o o':Oper}{A:aX}{k:Bool->Bool}{j:Nat}{w:Bool}{g:Tmp} (hg:o.guard=some (j,w)) (hj:ops[j]? =some o') (hd:o'.dst=some g):xL ops o A k=JE A.tmps g fun v=>QS w v k:=by
 unfold xL;rw [hg];simp only [hj,hd];rfl
theorem YS{w:Bool}{v:V}{u:Value} (r:fB c S C v u){k:Bool->Prop} (hv:Vq w v k):∃b,k b/\∀K:Bool->Bool,QS w u K=K b:=by
 cases r with
 | @bool b=>cases b<;>cases w<;>exact⟨_,hv,fun K=>rfl⟩
 | @tuple a a' la ha=>
  cases a with
  | nil=>exact⟨false,hv,fun K=>rfl⟩
  | cons x l=>cases hv
 | _=>cases hv
theorem Xc{A:VA}{A':aX} (a:AR c S (dB B c h) A A') (s:VS P B Sb c h S){o:Oper}{kv:KSV}{k:aX->St->Bool} (hk:KSR P B Sb c h S kv k){v:V}{w:Value} (r:fB c S (dB B c h) v w)
 (hv:match o.dst with | some d=>UJ A d v (fun A=>kv A h) | none=>kv A h):jO A' o.dst w (fun A=>k A S)=true:=by
 cases hd:o.dst with
 | none=>rw [hd]at hv;exact hk c h S A A' (.refl c) (.refl _ S) s a hv
 | some d=>rw [hd]at hv;exact YQ a r hv fun X X' x hx=>hk c h S X X' (.refl c) (.refl _ S) s x hx
theorem aDq:fB c S C yM undef:= .tuple (a':=[]) rfl fun k v w e=>by simp at e
theorem By{Ev:VE}{E:Env} (r:ER P B Sb Ev E){A:VA}{A':aX} (s:VS P B Sb c h S) (a:AR c S (dB B c h) A A'){ops:Array Oper}{o:Oper}{kv:KSV}{k:aX->St->Bool} (hk:KSR P B Sb c h S kv k) (hv:(doV P ops o).f Ev A h kv):OH E ops o A' S k=true:=by
 have beh:∀{c' h' S' v w},c.le c'->uN (dB B c h) S S' (dB B c' h')->VS P B Sb c' h' S'->fB c' S' (dB B c' h') v w->(match o.dst with | some d=>UJ A d v (fun A=>kv A h') | none=>kv A h')->jO A' o.dst w (fun A=>k A S')=true:=
  fun l f s' rv hv=>Xc (a.mono l f) s' (hk.mono l f) rv hv
 unfold doV at hv;unfold OH;cases hg:o.guard with
 | none=>
  rw [hg]at hv;rw [US hg];simp only at hv;show rP E o A' S (fun v S=>jO A' o.dst v fun A=>k A S)=true;unfold aCx at hv;cases hd:o.dst with
  | none=>
   rw [hd]at hv;exact ND r s a (fun c' h' S' v w l f s' rv hv=>by have:=beh l f s' rv (by rw [hd];exact hv);rwa [hd]at this) hv
  | some d=>
   rw [hd]at hv;exact ND r s a (fun c' h' S' v w l f s' rv hv=>by have:=beh l f s' rv (by rw [hd];exact hv);rwa [hd]at this) hv
 | some jw=>
  obtain⟨j,w⟩:=jw;rw [hg]at hv;simp only at hv;cases hj:ops[j]? with
  | none=>simp only [hj]at hv
  | some o'=>
   simp only [hj]at hv;cases hg':o'.dst with
   | none=>simp only [hg']at hv
   | some g=>
    simp only [hg']at hv;rw [Nl hg hj hg']
    have key:∀(v:V) (u:Value) (q:KV),(∀{c' h' S' v w},c.le c'->uN (dB B c h) S S' (dB B c' h')->VS P B Sb c' h' S'->fB c' S' (dB B c' h') v w->q v h'->jO A' o.dst w (fun A=>k A S')=true)->fB c S (dB B c h) v u->aB w v (fun k=>(Qv P o).f Ev A h k) h q->
     QS w u (fun b=>dW b (rP E o A' S fun v S=>jO A' o.dst v fun A=>k A S) (jO A' o.dst undef fun A=>k A S))=true:=by
     intro v u q hq rv hv;obtain⟨b,hb,e⟩:=YS rv hv;rw [e];cases b with
     | true=>exact ND r s a (fun c' h' S' v w l f s' rv hv=>hq l f s' rv hv) hb
     | false=>exact hq (.refl c) (.refl _ S) s aDq hb
    cases hd:o.dst with
    | none=>
     rw [hd]at hv;refine vV a hv fun v u rv hv=>?_;rw [bD]at hv;have:=key v u _ (fun l f s' rv hv=>beh l f s' rv (by rw [hd];exact hv)) rv hv
     rwa [hd]at this
    | some dd=>
     rw [hd]at hv;refine vV a hv fun v u rv hv=>?_;rw [bD]at hv;have:=key v u _ (fun l f s' rv hv=>beh l f s' rv (by rw [hd];exact hv)) rv hv
     rwa [hd]at this
theorem Xd{Ev:VE}{E:Env} (r:ER P B Sb Ev E){ops:Array Oper}:∀{l:List Oper} {c:Cx} {h:Hp} {S:St} {A:VA} {A':aX} {kv:KSV} {k:aX->St->Bool},VS P B Sb c h S->AR c S (dB B c h) A A'->KSR P B Sb c h S kv k->(opsV P ops l).f Ev A h kv->RF E ops l A' S k=true:=by
 intro l;induction l with
 | nil=>intro c h S A A' kv k s a hk hv;exact hk c h S A A' (.refl c) (.refl _ S) s a hv
 | cons o l ih=>
  intro c h S A A' kv k s a hk hv;have hv:(doV P ops o).f Ev A h (fun A S=>(opsV P ops l).f Ev A S kv):=hv;show OH E ops o A' S (RF E ops l · · k)=true;exact By r s a (fun c' h' S' X X' le f s' x hv=>ih s' x (hk.mono le f) hv) hv
theorem UT{Ev:VE}{E:Env} (r:ER P B Sb Ev E){ops:Array Oper}{A:VA}{A':aX} (s:VS P B Sb c h S) (a:AR c S (dB B c h) A A'){p:Prop}{b:Bool} (hb:p->b=true):∀{l:List Nat},(RR P ops l).f Ev A h p->rH E ops A' S l b=true:=by
 intro l;induction l with
 | nil=>intro hv;exact hb hv
 | cons i l ih=>
  intro hv;rw [YC]
  have e1:RR P ops (i::l)=match ops[i]? with
   | some o=>match o.dst with
    | some d=>match o.guard with
     | none=>⟨fun E A S k=>Bo A.tmps d fun u=>(Qv P o).f E A S fun v _=>aY v u ((RR P ops l).f E A S k)⟩
     | some (j,w)=>match ops[j]? with
      | some o'=>match o'.dst with
       | some g=>⟨fun E A S k=>Bo A.tmps d fun u=>Bo A.tmps g fun b=>aC E.most (bN w b u (fun k=>(Qv P o).f E A S fun v _=>aY v u k) ((RR P ops l).f E A S k))⟩
       | none=>⟨fun _ _ _ _=>False⟩
      | none=>⟨fun _ _ _ _=>False⟩
    | none=>⟨fun _ _ _ _=>False⟩
   | none=>⟨fun _ _ _ _=>False⟩:=rfl
  rw [e1]at hv;cases hi:ops[i]? with
  | none=>rw [hi]at hv;cases hv
  | some o=>
   rw [hi]at hv;simp only at hv ⊢;cases hd:o.dst with
   | none=>rw [hd]at hv;cases hv
   | some dd=>
    rw [hd]at hv;simp only at hv ⊢
    have run:∀{u:V} {uw:Value},fB c S (dB B c h) u uw->((Qv P o).f Ev A h fun v _=>aY v u ((RR P ops l).f Ev A h p))->rP E o A' S (fun v _=>match GF v uw with | true=>rH E ops A' S l b | false=>false)=true:=by
     intro u uw ru hv;refine ND r s a (fun c' h' S' v w le f s' rv hv=>?_) hv;obtain⟨rfl,ho,hv⟩:=hv;have:=rv.fn (ru.mono le f);subst this;rw [Xb s' rv ho];exact ih hv
    cases hg:o.guard with
    | none=>
     simp only [hg]at hv;refine vV a hv fun u uw ru hv=>?_;rw [US hg];exact run ru hv
    | some jw=>
     obtain⟨j,w⟩:=jw;simp only [hg]at hv;cases hj:ops[j]? with
     | none=>simp only [hj]at hv
     | some o'=>
      simp only [hj]at hv;cases hg':o'.dst with
      | none=>simp only [hg']at hv
      | some g=>
       simp only [hg']at hv;refine vV a hv fun u uw ru hv=>?_;rw [Nl hg hj hg'];refine vV a hv fun q qw rq hv=>?_;rw [bD]at hv;obtain⟨bb,hbb,e⟩:=YS rq hv;rw [e];cases bb with
       | true=>exact run ru hbb
       | false=>
        have hbb:aGb u ((RR P ops l).f Ev A h p):=hbb;cases ru with
        | @tuple a a' la ha=>
         cases a with
         | nil=>
          have:a'=[]:=List.eq_nil_of_length_eq_zero (by simpa using la.symm);subst this;exact ih hbb
         | cons x l=>cases hbb
        | _=>cases hbb
theorem UU{Ev:VE}{E:Env} (r:ER P B Sb Ev E){ops:Array Oper}{i:Nat}{o:Oper}{A:VA}{A':aX} (s:VS P B Sb c h S) (a:AR c S (dB B c h) A A'){Kv:KV}{K:VK} (k:KR P B Sb c h S Kv K) (hv:(Gf P ops i o).f Ev A h Kv):zT E ops i o A' S K=true:=by
 unfold Gf at hv;unfold zT;rw [r.eP];cases hc:dZ P ops i with
 | none=>rw [hc]at hv;exact ND r s a k hv
 | some j=>rw [hc]at hv;cases hv
theorem PN{Ev:VE}{E:Env} (r:ER P B Sb Ev E){ops:Array Oper}:∀{l:List Nat} {c:Cx} {h:Hp} {S:St} {A:VA} {A':aX} {kv:KSV} {k:aX->St->Bool},VS P B Sb c h S->AR c S (dB B c h) A A'->KSR P B Sb c h S kv k->(JS P ops l).f Ev A h kv->nG E ops l A' S k=true:=by
 intro l;induction l with
 | nil=>intro c h S A A' kv k s a hk hv;exact hk c h S A A' (.refl c) (.refl _ S) s a hv
 | cons i l ih=>
  intro c h S A A' kv k s a hk hv
  have e1:JS P ops (i::l)=match ops[i]? with
   | some o=>match o.dst with
    | some d=>⟨fun E A S k=>(Gf P ops i o).f E A S fun v S=>UJ A d v fun A=>(JS P ops l).f E A S k⟩
    | none=>⟨fun E A S k=>(Gf P ops i o).f E A S fun _ S=>(JS P ops l).f E A S k⟩
   | none=>⟨fun _ _ _ _=>False⟩:=rfl
  have e2:nG E ops (i::l) A' S k=match ops[i]? with
   | some o=>zT E ops i o A' S fun v S=>jO A' o.dst v fun A=>nG E ops l A S k
   | none=>false:=rfl
  rw [e1]at hv;rw [e2];cases hi:ops[i]? with
  | none=>rw [hi]at hv;cases hv
  | some o=>
   rw [hi]at hv;simp only at hv ⊢;cases hd:o.dst with
   | none=>
    rw [hd]at hv;exact UU r s a (fun c' h' S' v w le f s' rv hv=>ih s' (a.mono le f) (hk.mono le f) hv) hv
   | some d=>
    rw [hd]at hv;exact UU r s a (fun c' h' S' v w le f s' rv hv=>YQ (a.mono le f) rv hv fun X X' x hx=>ih s' x (hk.mono le f) hx) hv
theorem Gu{Ev:VE}{E:Env} (r:ER P B Sb Ev E){ops:Array Oper}{A:VA}{A':aX} (s:VS P B Sb c h S) (a:AR c S (dB B c h) A A'){p:Prop}{b:Bool} (hb:p->b=true):∀{l:List (Nat×List Nat)},(Jy P ops l).f Ev A h p->OP E ops A' S l b=true:=by
 intro l;induction l with
 | nil=>intro hv;exact hb hv
 | cons q l ih=>
  intro hv
  have e1:Jy P ops (q::l)=match ops[q.1]? with
   | some o=>⟨fun E A S k=>absP A o (((JS P ops q.2).f E A S fun A S=>(Gf P ops q.1 o).f E A S fun _ _=>True)/\(Jy P ops l).f E A S k)⟩
   | none=>⟨fun _ _ _ _=>False⟩:=rfl
  have e2:OP E ops A' S (q::l) b=match ops[q.1]? with
   | some o=>Pd A' o (dW (nG E ops q.2 A' S fun A S=>zT E ops q.1 o A S fun _ _=>true) (OP E ops A' S l b) false)
   | none=>false:=rfl
  rw [e1]at hv;rw [e2];cases hi:ops[q.1]? with
  | none=>rw [hi]at hv;cases hv
  | some o=>
   rw [hi]at hv;simp only at hv ⊢;unfold absP at hv;unfold Pd;cases hd:o.dst with
   | none=>rw [hd]at hv;cases hv
   | some dd=>
    rw [hd]at hv;simp only at hv ⊢;obtain⟨hg,h1,h2⟩:=Wl _ _ hv
    ·rw [nF,a.abs dd hg]
     have hl:(nG E ops q.2 A' S fun A S=>zT E ops q.1 o A S fun _ _=>true)=true:=PN r s a (fun c' h' S' X X' le f s' x hv=>UU r s' x (fun _ _ _ _ _ _ _ _ _ _=>rfl) hv) h1;show dW (nG E ops q.2 A' S fun A S=>zT E ops q.1 o A S fun _ _=>true) (OP E ops A' S l b) false=true;rw [hl];exact ih h2
theorem QW{Ev:VE}{E:Env} (r:ER P B Sb Ev E){ops:Array Oper}:∀{l:List JM} {c:Cx} {h:Hp} {S:St} {A:VA} {A':aX} {kv:KSV} {k:aX->St->Bool},VS P B Sb c h S->AR c S (dB B c h) A A'->KSR P B Sb c h S kv k->(EJ P ops l).f Ev A h kv->qE E ops l A' S k=true:=by
 intro l;induction l with
 | nil=>intro c h S A A' kv k s a hk hv;cases hv
 | cons st l ih=>
  intro c h S A A' kv k s a hk hv;cases st with
  | take i=>
   have e1:EJ P ops (.take i::l)=match ops[i]? with
    | some o=>⟨fun E A S k=>(doV P ops o).f E A S fun A S=>(EJ P ops l).f E A S k⟩
    | none=>⟨fun _ _ _ _=>False⟩:=rfl
   have e2:qE E ops (.take i::l) A' S k=match ops[i]? with
    | some o=>OH E ops o A' S fun A S=>qE E ops l A S k
    | none=>false:=rfl
   rw [e1]at hv;rw [e2];cases hi:ops[i]? with
   | none=>rw [hi]at hv;cases hv
   | some o=>
    rw [hi]at hv;exact By r s a (fun c' h' S' X X' le f s' x hv=>ih s' x (hk.mono le f) hv) hv
  | req chk pend D q RK=>
   have e1:EJ P ops (.req chk pend D q RK::l)=match ops[q]? with
    | some o=>⟨fun E A S k=>(RR P ops chk).f E A S ((Jy P ops pend).f E A S ((JS P ops D).f E A S fun A S=>(doV P ops o).f E A S fun A S=>(RR P ops RK).f E A S ((EJ P ops l).f E A S k)))⟩
    | none=>⟨fun _ _ _ _=>False⟩:=rfl
   have e2:qE E ops (.req chk pend D q RK::l) A' S k=match ops[q]? with
    | some o=>rH E ops A' S chk (OP E ops A' S pend (nG E ops D A' S fun A S=>OH E ops o A S fun A S=>rH E ops A S RK (qE E ops l A S k)))
    | none=>false:=rfl
   rw [e1]at hv;rw [e2];cases hi:ops[q]? with
   | none=>rw [hi]at hv;cases hv
   | some o=>
    rw [hi]at hv;refine UT r s a (fun hv=>?_) hv;refine Gu r s a (fun hv=>?_) hv;refine PN r s a (fun c' h' S' X X' le f s' x hv=>?_) hv;refine By r s' x (fun c2 h2 S2 Y Y' jX f2 s2 y hv=>?_) hv;refine UT r s2 y (fun hv=>?_) hv;exact ih s2 y ((hk.mono le f).mono jX f2) hv
  | fin chk pend D=>
   have hv:(RR P ops chk).f Ev A h ((Jy P ops pend).f Ev A h ((JS P ops D).f Ev A h kv)):=hv;show rH E ops A' S chk (OP E ops A' S pend (nG E ops D A' S k))=true;refine UT r s a (fun hv=>?_) hv;refine Gu r s a (fun hv=>?_) hv;exact PN r s a hk hv
end
end Go.Am
