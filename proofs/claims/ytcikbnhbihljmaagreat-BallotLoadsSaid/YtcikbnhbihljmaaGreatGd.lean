/- VM: code, functions, environments. -/
import Derived.Test.YtcikbnhbihljmaaGreatGc
import Derived.Maps.RangeWalk
import Derived.Sort.MapsRangeIn
import Derived.Test.YtcikbnhbihljmaaGreatGb
import GoSem.ClaimJoined

namespace Go.Am
open Go.RowKit Go.MapKept
section
variable{P:Program}{B:Nat->Prop}{Sb:St}{c c' d:Cx}{h h':Hp}{S S':St}{C C':Nat->Prop}
theorem AR.del{A:VA}{A':aX} (a:AR c S C A A') (d:Nat):AR c S C ⟨⟨A.tmps.t.del d,A.tmps.n⟩,A.g⟩ {A' with tmps:=⟨A'.tmps.t.del d,A'.tmps.n⟩}:=by
 refine⟨a.n,a.g,a.marks,fun i v e=>?_,fun i e=>?_⟩
 ·have e:(A.tmps.t.del d).get i=some v:=e
  rw [MJ]at e;show ∃w,(A'.tmps.t.del d).get i=some w/\_;rw [MJ];by_cases hi:i=d
  ·rw [if_pos hi]at e;cases e
  ·rw [if_neg hi]at e ⊢;exact a.got i v e
 ·have e:(A.tmps.t.del d).get i=none:=e
  rw [MJ]at e;show(A'.tmps.t.del d).get i=none;rw [MJ];by_cases hi:i=d
  ·rw [if_pos hi]
  ·rw [if_neg hi]at e ⊢;exact a.abs i e
theorem Rc{ops:Array Oper}{k:VA->Prop}{k':aX->Bool} (hk:∀X X',AR c S C X X'->k X->k' X'=true):∀{l:List Nat} {A:VA} {A':aX},AR c S C A A'->Ni ops l A k->TO ops l A' k'=true:=by
 intro l;induction l with
 | nil=>intro A A' a hv;exact hk A A' a hv
 | cons i l ih=>
  intro A A' a hv
  have e1:Ni ops (i::l) A k=match ops[i]? with
   | some o=>match o.dst with
    | some d=>match A with | ⟨⟨t,n⟩,g⟩=>Wa t d fun t=>Ni ops l ⟨⟨t,n⟩,g⟩ k
    | none=>False
   | none=>False:=rfl
  have e2:TO ops (i::l) A' k'=match ops[i]? with
   | some o=>match o.dst with
    | some d=>Ua A'.tmps.t d fun t=>TO ops l {A' with tmps:=⟨t,A'.tmps.n⟩} k'
    | none=>false
   | none=>false:=rfl
  rw [e1]at hv;rw [e2];cases hi:ops[i]? with
  | none=>simp only [hi]at hv
  | some o=>
   simp only [hi]at hv ⊢;cases hd:o.dst with
   | none=>simp only [hd]at hv
   | some d=>
    simp only [hd]at hv ⊢;rw [aA2]at hv;rw [Mc];exact ih (a.del d) hv
theorem Xe{Ev:VE}{E:Env} (r:ER P B Sb Ev E){ops:Array Oper}{draw:Bool}{A:VA}{A':aX} (s:VS P B Sb c h S) (a:AR c S (dB B c h) A A'){kv:KSV}{k:aX->St->Bool} (hk:KSR P B Sb c h S kv k) (hv:(aAY P ops draw).f Ev A h kv):(Pv P ops draw).f E A' S k=true:=by
 have hP:=r.eP;subst hP;rw [Mt];cases draw with
 | false=>exact Xd r s a hk hv
 | true=>
  show drP E ops A' S k=true;unfold drP;unfold aAY at hv;simp only at hv;cases hp:YG E.P ops with
  | none=>simp only [hp]at hv
  | some l=>
   simp only [hp]at hv ⊢;cases hl:QK l with
   | nil=>
    simp only [hl]at hv;exact QW r s a hk hv
   | cons x ls=>
    simp only [hl]at hv;exact Rc (fun X X' x hx=>QW r s x hk hx) a hv
def CKR (P:Program) (B:Nat->Prop) (Sb:St) (c:Cx) (h:Hp) (S:St) (Kv:CV) (K:LP):Prop:=
 ∀c' h' S' A A' e,c.le c'->uN (dB B c h) S S' (dB B c' h')->VS P B Sb c' h' S'->AR c' S' (dB B c' h') A A'->Kv e A h'->K e A' S'=true
def LKR (P:Program) (B:Nat->Prop) (Sb:St) (c:Cx) (h:Hp) (S:St) (Kv:rD->List V->Nat->Hp->Prop) (K:rD->List Value->Nat->List Nat->St->Bool):Prop:=
 ∀c' h' S' vs ws n e,c.le c'->uN (dB B c h) S S' (dB B c' h')->VS P B Sb c' h' S'->jQ c' S' (dB B c' h') vs ws->Kv e vs n h'->∀marks,RS c' S' (dB B c' h') marks->K e ws n marks S'=true
def RoV (c:Cx) (r r':Option Nat):Prop:=(r=none/\r'=none)\/∃l b,r=some l/\r'=some b/\c.Zz l=some b
theorem RoV.mono{r r':Option Nat} (q:RoV c r r') (l:c.le c'):RoV c' r r':=by
 rcases q with q | ⟨i,b,h1,h2,h3⟩
 ·exact .inl q
 ·exact .inr ⟨i,b,h1,h2,l.Zz _ _ h3⟩
def aCy (P:Program) (B:Nat->Prop) (Sb:St) (Ev:VE) (E:Env) (r r':Option Nat) (lv:LpV) (lx:LpT):Prop:=
 ∀{c:Cx} {h:Hp} {S:St} {vs:List V} {ws:List Value} {n:Nat} {marks:List Nat} {Kv:rD->List V->Nat->Hp->Prop} {K:rD->List Value->Nat->List Nat->St->Bool},VS P B Sb c h S->RoV c r r'->RS c S (dB B c h) marks->jQ c S (dB B c h) vs ws->LKR P B Sb c h S Kv K->lv Ev vs n h Kv->lx E r' ws n marks S K=true
theorem CKR.mono{Kv:CV}{K:LP} (q:CKR P B Sb c h S Kv K) (l:c.le c') (f:uN (dB B c h) S S' (dB B c' h')):CKR P B Sb c' h' S' Kv K:=
 fun c2 h2 S2 A A' e l2 f2=>q c2 h2 S2 A A' e (l.trans l2) (f.trans f2)
theorem LKR.mono{Kv:rD->List V->Nat->Hp->Prop}{K:rD->List Value->Nat->List Nat->St->Bool} (q:LKR P B Sb c h S Kv K) (l:c.le c') (f:uN (dB B c h) S S' (dB B c' h')):LKR P B Sb c' h' S' Kv K:=
 fun c2 h2 S2 vs ws n e l2 f2=>q c2 h2 S2 vs ws n e (l.trans l2) (f.trans f2)
theorem CQ{A:VA}{A':aX} (a:AR c S C A A'):∀{l:List Nat} {k:List V->Prop} {k':List Value->Bool},CN l A k->(∀vs ws,jQ c S C vs ws->k vs->k' ws=true)->tR l A' k'=true:=by
 intro l;induction l with
 | nil=>intro k k' hv hk;exact hk [] [] .nil hv
 | cons i l ih=>
  intro k k' hv hk;have hv:Bo A.tmps i (fun v=>CN l A fun vs=>k (v::vs)):=hv;show JE A'.tmps i (fun v=>tR l A' fun vs=>k' (v::vs))=true;exact vV a hv fun v w rv hv=>ih hv fun vs ws rs hv=>hk _ _ (.cons rv rs) hv
theorem Re{A:VA}:∀{l:List Nat} {k:List V->Prop},CN l A k->∃vs,k vs/\vs.length=l.length/\∀(j i:Nat) (v:V),l[j]? =some i->vs[j]? =some v->A.tmps.t.get i=some v:=by
 intro l;induction l with
 | nil=>intro k hv;exact⟨[],hv,rfl,fun j i v h=>by simp at h⟩
 | cons i l ih=>
  intro k hv;obtain⟨v,e,hv⟩:=Gi _ _ _ (show Bo A.tmps i (fun v=>CN l A fun vs=>k (v::vs))from hv);obtain⟨vs,h1,h2,h3⟩:=ih hv;refine⟨v::vs,h1,by simp [h2],fun j x u hx hu=>?_⟩;cases j with
  | zero=>simp at hx hu;subst hx hu;exact e
  | succ j=>simp at hx hu;exact h3 j x u hx hu
theorem Rf{g:Nat}{marks:List Nat}{k:VA->Prop}{k':aX->Bool} (hk:∀X X',AR c S C X X'->k X->k' X'=true):∀{l:List Nat} {vs:List V} {ws:List Value} {T:Bn} {T':Tm},jQ c S C vs ws->AR c S C ⟨T,g⟩ ⟨T',marks,g⟩->
 fD (β:=List V->Bn->Prop) (fun _ T=>k ⟨T,g⟩) (fun i _ ih vs T=>match vs with | v::vs=>JR v T i fun T=>ih vs T | []=>False) l vs T->
 fD (β:=List Value->Tm->Bool) (fun _ T=>k' ⟨T,marks,g⟩) (fun i _ ih vs T=>match vs with | v::vs=>qH v T i fun T=>ih vs T | []=>false) l ws T'=true:=by
 intro l;induction l with
 | nil=>intro vs ws T T' _ a hv;exact hk _ _ a hv
 | cons i l ih=>
  intro vs ws T T' rs a hv;rw [bG]at hv ⊢;cases vs with
  | nil=>cases hv
  | cons v vs=>
   obtain⟨w,ws',rfl,rv,rs⟩:=rs.cons_inv;obtain⟨h1,h2⟩:=IC hv;show qH w T' i _=true;rw [NA (by rw [show T'.n=T.n from a.n.symm];exact h1)];exact ih rs (a.put rv) h2
theorem AR.leaf{n g:Nat}{marks:List Nat} (m:RS c S C marks):AR c S C ⟨⟨.leaf,n⟩,g⟩ ⟨⟨.leaf,n⟩,marks,g⟩:=⟨rfl,rfl,m,fun i v e=>(by cases e),fun i _=>rfl⟩
theorem EP{l:List Nat}{vs:List V}{ws:List Value}{n g:Nat}{k:VA->Prop}{k':aX->Bool}{marks:List Nat} (m:RS c S C marks) (rs:jQ c S C vs ws) (hv:EE l vs n g k) (hk:∀X X',AR c S C X X'->k X->k' X'=true):canonK l ws n g marks k'=true:=Rf hk rs (.leaf m) hv
variable{tb:oC}
theorem aDr (s:VS P B Sb c h S) (o:gF):VS P B Sb c h (S.new o)/\uN (dB B c h) S (S.new o) (dB B c h):=by
 have fr:uN (dB B c h) S (S.new o) (dB B c h):=⟨Nat.le_succ _,fun j hj _=>fM (Nat.ne_of_lt hj),fun b l=> .inl l⟩;refine⟨⟨s.base.trans (.new S _),s.bB,fun i o' e eg=>?_,fun i vs t n e=>?_,s.inj,s.Gs,s.room,s.JT,fun i vs t n m b e e3=>⟨(s.Gb i vs t n m b e e3).1,Nat.lt_succ_of_lt (s.Gb i vs t n m b e e3).2⟩,fun i vs t n b ws e' olds e e3 e4=>s.old i vs t n b ws e' olds e e3 (by rw [fM (by have:=(s.Gb i vs t n n b e e3).2;omega)]at e4;exact e4)⟩,fr⟩
 ·obtain⟨b,a,a1,a2,a3,a4,a5⟩:=s.ob i o' e eg
  exact⟨b,a,a1,a2,Nat.lt_succ_of_lt a3,by rw [fM (by omega)];exact a4,a5.mono (.refl c) fr⟩
 ·obtain⟨b,ws,olds,sz,a1,a2,a3,a4,a5,a6⟩:=s.iD i vs t n e
  exact⟨b,ws,olds,sz,a1,a2,Nat.lt_succ_of_lt a3,by rw [fM (by omega)];exact a4,a5.mono (.refl c) fr,a6⟩
theorem Bz{k:gF->Bool}{b:Nat}{a:gF} (e:S.obj b=some a):oV S.h b k=k a:=by
 rw [nF];have e:S.h.get b=some a:=e;rw [e]
theorem Kj{l:Nat}{p:Prop} (hv:SE l h p):∃ls vs n ps as bo st pe,h l=some (.loop ls vs n ps as bo st pe)/\p:=by
 unfold SE at hv;split at hv
 ·rename_i e;exact⟨_,_,_,_,_,_,_,_,e,hv⟩
 ·cases hv
theorem aA7{X X':aX}{Kv:CV}{K:LP}{A:VA}{pe:Option Code}{kn:aX} (e:X=X') (hn:kn=X') (h1:Kv .normal A h->K .normal X' S=true) (h2:Kv .ret A h->K .ret X' S=true) (h3:∀i,Kv (.exit i) A h->K (.exit i) X' S=true)
 (hv:QT pe (Kv .normal A h) (Kv .ret A h) (fun id=>Kv (.exit id) A h)):(match(generalizing:=false) pe with | none=>K .normal X S | some .ret=>K .ret X S | some (.exit id)=>K (.exit id) X S | _=>false)=true:=by
 subst e;unfold QT at hv;split at hv
 ·exact h1 hv
 ·exact h2 hv
 ·exact h3 _ hv
 ·cases hv
theorem QX{Ev:VE}{E:Env} (r:ER P B Sb Ev E){A:VA}{A':aX} (s:VS P B Sb c h S) (a:AR c S (dB B c h) A A'){ls:List Nat}{vs:List V} (hl:vs.length=ls.length) (hg:∀(j i:Nat) (v:V),ls[j]? =some i->vs[j]? =some v->A.tmps.t.get i=some v){g:FuncId}{fa fc:List V}{fa' fc':List Value}
 (ra:jQ c S (dB B c h) fa fa') (rc:jQ c S (dB B c h) fc fc') {ps:List Tmp} {as bo:Code} {Kv:CV} {K:LP} (k:CKR P B Sb c h S Kv K)
 (hv:PJ Ev (.func g fa fc) ls vs A.tmps.n ps as bo h fun pe h'=>QT pe (Kv .normal A h') (Kv .ret A h') fun id=>Kv (.exit id) A h'):
 (qW S (.loop A'.tmps ps as bo .ready none) fun l S=>uM fa' [.func (.yield l) #[] #[]] fun as=>uM as fc' fun as=>E.call g as S fun _ S=>
  oV S.h l fun o=>match o with
   | .loop tm ps as bo st pe=>match st with
    | .busy=>false
    | _=>pV S l (.loop tm ps as bo .exhausted pe) fun S=>match pe with
     | none=>K .normal A' S
     | some .ret=>K .ret A' S
     | some (.exit id)=>K (.exit id) A' S
     | _=>false
   | _=>false)=true:=by
 obtain⟨l,h0,h1,h2⟩:=s.fresh;have hv:=hv l h0;rw [gD]
 obtain⟨s1,le,fr,hb⟩:=s.Wj h0 h1 h2 (o:= .loop ls vs A.tmps.n ps as bo .ready none) (ao:= .loop A'.tmps ps as bo .ready none) rfl (fun d S' C' le f=>⟨_,rfl,a.n,hl,fun j i v e1 e2=>by
  obtain⟨w,g1,g2⟩:=a.got i v (hg j i v e1 e2);exact⟨w,g1,g2.mono le f⟩⟩)
 rw [jJ,jJ];have ry:fB (c.putZ l S.n) (S.new (.loop A'.tmps ps as bo .ready none)) (dB B (c.putZ l S.n) (upd h l (.loop ls vs A.tmps.n ps as bo .ready none))) (.yield l) (.func (.yield S.n) #[] #[]):= .yield hb;refine r.call' g s1 (((ra.mono le fr).app (.cons ry .nil)).app (rc.mono le fr)) ?_ hv;intro c' h' S' v w l2 f2 s2 rv hv;unfold Fw at hv;split at hv
 ·rename_i ls' vs' n' ps' as' bo' st pe e
  obtain⟨b,ao,b1,b2,b3,b4,b5⟩:=s2.ob l _ e rfl;have hbb:=l2.Zz _ _ hb;rw [hbb]at b1;injection b1 with b1;subst b1;obtain⟨T,rfl,b6,b7,b8⟩:=b5;show(oV S'.h S.n _)=true;rw [Bz b4];simp only
  have fin:∀{p:Prop},(QT pe (Kv .normal A (upd h' l (.loop ls' vs' n' ps' as' bo' .exhausted pe))) (Kv .ret A (upd h' l (.loop ls' vs' n' ps' as' bo' .exhausted pe))) fun id=>Kv (.exit id) A (upd h' l (.loop ls' vs' n' ps' as' bo' .exhausted pe)))->
   (pV S' S.n (.loop T ps' as' bo' .exhausted pe) fun S=>match(generalizing:=false) pe with
    | none=>K .normal A' S
    | some .ret=>K .ret A' S
    | some (.exit id)=>K (.exit id) A' S
    | _=>false)=true:=by
   intro _ hv;rw [fS]
   obtain⟨s3,f3⟩:=s2.Gh e rfl hbb (o:= .loop ls' vs' n' ps' as' bo' .exhausted pe) (ao:= .loop T ps' as' bo' .exhausted pe) rfl (fun S' C' f=>⟨T,rfl,b6,b7,fun j i v e1 e2=>by
    obtain⟨w,g1,g2⟩:=b8 j i v e1 e2;exact⟨w,g1,g2.mono (.refl _) f⟩⟩)
   have leA:=le.trans l2;have frA:=(fr.trans f2).trans f3;have aA:=a.mono leA frA;refine aA7 (X:=A') (X':=A') (Kv:=Kv) (K:=K) (kn:=A') rfl rfl (fun hv=>k _ _ _ A A' .normal leA frA s3 aA hv) (fun hv=>k _ _ _ A A' .ret leA frA s3 aA hv) (fun i hv=>k _ _ _ A A' (.exit i) leA frA s3 aA hv) hv
  split at hv
  ·cases hv
  ·rename_i hb'
   split
   ·exact absurd rfl hb'
   ·exact fin (p:=True) hv
 ·cases hv
theorem Kk{Ev:VE}{E:Env} (r:ER P B Sb Ev E){ro ro':Option Nat}{f:Operand}{ps:Array Tmp}{as bo:Code}{A:VA}{A':aX}{Kv:CV}{K:LP} (s:VS P B Sb c h S) (hro:RoV c ro ro') (a:AR c S (dB B c h) A A') (k:CKR P B Sb c h S Kv K) (hv:(Bu tb ro f ps as bo).f Ev A h Kv):OI E ro' f ps as bo A' S K=true:=by
 unfold Bu at hv;unfold OI;refine bO a hv fun fv fw rf hv=>?_;obtain⟨vs,hv,hl,hg⟩:=Re hv;rcases hro with ⟨rfl,rfl⟩ | ⟨l,b,rfl,rfl,hb⟩
 ·have hv:PJ Ev fv (Bt tb bo) vs A.tmps.n ps.toList as bo h _:=hv
  cases rf with
  | @func g fa fc fa' fc' la lc ha hc=>
   simp only;rw [gD];obtain⟨s1,f1⟩:=aDr s .defers
   have m1:RS c (S.new .defers) (dB B c h) (S.n::A'.marks):=by
    have m:=a.marks.mono (.refl c) f1;refine⟨m.n0,List.nodup_cons.2 ⟨fun hx=>?_,m.nd⟩,fun d hd=>?_⟩
    ·exact Nat.lt_irrefl _ (a.marks.ok _ hx).2.1
    ·rcases List.mem_cons.1 hd with rfl | hd
     ·exact⟨a.marks.n0,Nat.lt_succ_self _,fun x=>Nat.lt_irrefl _ (s.Qx x),oY⟩
     ·exact m.ok d hd
   have a0:=a.mono (.refl c) f1;have a1:AR c (S.new .defers) (dB B c h) A ⟨A'.tmps,S.n::A'.marks,A'.g⟩:=⟨a0.n,a0.g,m1,a0.got,a0.abs⟩;exact QX r s1 a1 hl hg ((⟨la,ha⟩:jQ _ _ _ fa fa').mono (.refl c) f1) ((⟨lc,hc⟩:jQ _ _ _ fc fc').mono (.refl c) f1) (fun c' h' S' X X' e l2 f2=>k c' h' S' X X' e l2 (f1.trans f2)) hv
  | _=>cases hv
 ·have hv:SE l h (PJ Ev fv (Bt tb bo) vs A.tmps.n ps.toList as bo h _):=hv
  obtain⟨_,_,_,_,_,_,_,_,e,hv⟩:=Kj hv;cases rf with
  | @func g fa fc fa' fc' la lc ha hc=>
   simp only;obtain⟨b',ao,b1,b2,b3,b4,b5⟩:=s.ob l _ e rfl;rw [hb]at b1;injection b1 with b1;subst b1;obtain⟨T,rfl,_⟩:=b5;rw [Bz b4];exact QX r s a hl hg ⟨la,ha⟩ ⟨lc,hc⟩ k hv
  | _=>cases hv
theorem ID{Ev:VE}{E:Env} (r:ER P B Sb Ev E){ro ro':Option Nat}{lv:Code->LpV}{lx:Code->LpT} (hl:∀a,aCy P B Sb Ev E ro ro' (lv a) (lx a)):∀(q:Code) {c:Cx} {h:Hp} {S:St} {A:VA} {A':aX} {Kv:CV} {K:LP},
 VS P B Sb c h S->RoV c ro ro'->AR c S (dB B c h) A A'->CKR P B Sb c h S Kv K->(oD P tb ro lv q).f Ev A h Kv->(mB P tb lx q).f E ro' A' S K=true:=by
 intro q;induction q with
 | skip=>intro c h S A A' Kv K s hro a k hv;exact k c h S A A' .normal (.refl c) (.refl _ S) s a hv
 | label l=>intro c h S A A' Kv K s hro a k hv;exact k c h S A A' .normal (.refl c) (.refl _ S) s a hv
 | ret=>intro c h S A A' Kv K s hro a k hv;exact k c h S A A' .ret (.refl c) (.refl _ S) s a hv
 | exit i=>intro c h S A A' Kv K s hro a k hv;exact k c h S A A' (.exit i) (.refl c) (.refl _ S) s a hv
 | goto l=>intro c h S A A' Kv K s hro a k hv;cases hv
 | refuse l=>intro c h S A A' Kv K s hro a k hv;cases hv
 | rangeFunc f ps as bo _ _=>
  intro c h S A A' Kv K s hro a k hv;have hv:(Bu tb ro f ps as bo).f Ev A h Kv:=hv;exact Kk r s hro a k hv
 | region i ops draw=>
  intro c h S A A' Kv K s hro a k hv;have hv:(aAY P ops draw).f Ev A h (fun A S=>Kv .normal A S):=hv;show(Pv P ops draw).f E A' S (fun A S=>K .normal A S)=true;exact Xe r s a (fun c' h' S' X X' l f s' x hv=>k c' h' S' X X' .normal l f s' x hv) hv
 | seq x y Tt ihy=>
  intro c h S A A' Kv K s hro a k hv;refine Tt s hro a ?_ (show(oD P tb ro lv x).f Ev A h (Nj P (xE tb y) (oD P tb ro lv y) Ev Kv)from hv);intro c' h' S' X X' e l f s' x hv;cases e with
  | normal=>
   unfold Nj at hv;show Fk P (xE tb y) (mB P tb lx y) E ro' K .normal X' S'=true;unfold Fk;simp only at hv ⊢;cases hj:xE tb y with
   | none=>simp only [hj]at hv ⊢;exact ihy s' (hro.mono l) x (k.mono l f) hv
   | some ls=>
    simp only [hj]at hv ⊢;refine CQ x hv fun vs ws rs hv=>?_;unfold Wd at hv;unfold Mu;rw [r.eM]at hv;cases hm:E.most with
    | zero=>rw [hm]at hv;cases hv
    | succ m=>
     rw [hm]at hv;obtain⟨h2,hle,hv⟩:=hv;obtain⟨s2,f2⟩:=s'.drop hle;have hv:EE ls vs X.tmps.n P.globals.size (fun A=>(oD P tb ro lv y).f Ev A h2 Kv):=hv;rw [x.n]at hv;show canonK ls ws X'.tmps.n P.globals.size X'.marks (fun A=>(mB P tb lx y).f E ro' A S' K)=true;exact EP (x.marks.mono (.refl _) f2) (rs.mono (.refl _) f2) hv fun Y Y' y hv=>ihy s2 (hro.mono l) y ((k.mono l f).mono (.refl _) f2) hv
  | exit i=>exact k c' h' S' X X' (.exit i) l f s' x hv
  | ret=>exact k c' h' S' X X' .ret l f s' x hv
 | cond b x y Tt ihy=>
  intro c h S A A' Kv K s hro a k hv;have hv:(uL b).f A (fun v=>fC v ((oD P tb ro lv x).f Ev A h Kv) ((oD P tb ro lv y).f Ev A h Kv)):=hv;show(sY b).f A' (fun v=>match v with | .bool b=>dW b ((mB P tb lx x).f E ro' A' S K) ((mB P tb lx y).f E ro' A' S K) | _=>false)=true;rw [iX];refine bO a hv fun v w rv hv=>?_;cases rv with
  | @bool b=>
   cases b with
   | true=>exact Tt s hro a k hv
   | false=>exact ihy s hro a k hv
  | _=>cases hv
 | block i x ih=>
  intro c h S A A' Kv K s hro a k hv;refine ih s hro a ?_ (show(oD P tb ro lv x).f Ev A h (Jz i Kv)from hv);intro c' h' S' X X' e l f s' x hv;cases e with
  | normal=>exact k c' h' S' X X' .normal l f s' x hv
  | ret=>exact k c' h' S' X X' .ret l f s' x hv
  | exit j=>
   show(match Nat.beq j i with | true=>K .normal X' S' | false=>K (.exit j) X' S')=true;have hv:Nd j i (Kv .normal X h') (Kv (.exit j) X h'):=hv;unfold Nd at hv;cases hj:Nat.beq j i with
   | true=>rw [hj]at hv;exact k c' h' S' X X' .normal l f s' x hv
   | false=>rw [hj]at hv;exact k c' h' S' X X' (.exit j) l f s' x hv
 | scope x ih=>
  intro c h S A A' Kv K s hro a k hv;exact ih s hro a k hv
 | loop x ih=>
  intro c h S A A' Kv K s hro a k hv;have hv:CN (rI tb x) A (fun vs=>lv x Ev vs A.tmps.n h (Qw P tb x Kv)):=hv;show tR (rI tb x) A' (fun vs=>lx x E ro' vs A'.tmps.n A'.marks S (aC9 P tb x K))=true;refine CQ a hv fun vs ws rs hv=>?_;rw [<-a.n];refine hl x s hro a.marks rs ?_ hv;intro c' h' S' vs ws n e l f s' rs hv marks m;exact EP m rs hv fun X X' x hx=>k c' h' S' X X' e l f s' x hx
theorem Ca{Ev:VE}{E:Env} (r:ER P B Sb Ev E){ro ro':Option Nat}:∀(m:Nat) (a:Code),aCy P B Sb Ev E ro ro' (IS P tb ro m a) (Py P tb m a):=by
 intro m;induction m with
 | zero=>intro a c h S vs ws n marks Kv K s hro mk rs k hv;cases hv
 | succ m ih=>
  intro a
  have go:∀(j:Nat) {c:Cx} {h:Hp} {S:St} {vs:List V} {ws:List Value} {n:Nat} {marks:List Nat} {Kv:rD->List V->Nat->Hp->Prop} {K:rD->List Value->Nat->List Nat->St->Bool},VS P B Sb c h S->RoV c ro ro'->RS c S (dB B c h) marks->jQ c S (dB B c h) vs ws->LKR P B Sb c h S Kv K->HZ P tb a (oD P tb ro (IS P tb ro m) a) Ev Kv j vs n h->MS P tb a (mB P tb (Py P tb m) a) E ro' K j ws n marks S=true:=by
   intro j;induction j with
   | zero=>intro c h S vs ws n marks Kv K s hro mk rs k hv;cases hv
   | succ j ihj=>
    intro c h S vs ws n marks Kv K s hro mk rs k hv;obtain⟨h2,hle,hv⟩:=hv;obtain⟨s2,f2⟩:=s.drop hle;show canonK (rI tb a) ws n P.globals.size marks (fun A=>(mB P tb (Py P tb m) a).f E ro' A S (Aw tb a (MS P tb a (mB P tb (Py P tb m) a) E ro' K j) K))=true;refine EP (mk.mono (.refl _) f2) (rs.mono (.refl _) f2) hv fun X X' x hv=>?_;refine ID r ih a s2 hro x ?_ hv;intro c' h' S' Y Y' e l f s' y hv;have kk:=(k.mono (.refl _) f2).mono l f;cases e with
    | normal=>
     have hv:CN (rI tb a) Y (fun vs=>HZ P tb a (oD P tb ro (IS P tb ro m) a) Ev Kv j vs Y.tmps.n h'):=hv;show tR (rI tb a) Y' (fun vs=>MS P tb a (mB P tb (Py P tb m) a) E ro' K j vs Y'.tmps.n Y'.marks S')=true;refine CQ y hv fun vs ws rs hv=>?_;rw [<-y.n];exact ihj s' (hro.mono l) y.marks rs kk hv
    | exit i=>
     have hv:CN (outOf tb a (.exit i)) Y (fun vs=>Kv (.exit i) vs Y.tmps.n h'):=hv;show tR (outOf tb a (.exit i)) Y' (fun vs=>K (.exit i) vs Y'.tmps.n Y'.marks S')=true;refine CQ y hv fun vs ws rs hv=>?_;rw [<-y.n];exact kk c' h' S' vs ws _ _ (.refl _) (.refl _ S') s' rs hv _ y.marks
    | ret=>
     have hv:CN (outOf tb a .ret) Y (fun vs=>Kv .ret vs Y.tmps.n h'):=hv;show tR (outOf tb a .ret) Y' (fun vs=>K .ret vs Y'.tmps.n Y'.marks S')=true;refine CQ y hv fun vs ws rs hv=>?_;rw [<-y.n];exact kk c' h' S' vs ws _ _ (.refl _) (.refl _ S') s' rs hv _ y.marks
  intro c h S vs ws n marks Kv K s hro mk rs k hv;have hv:HZ P tb a (oD P tb ro (IS P tb ro m) a) Ev Kv Ev.most vs n h:=hv;rw [r.eM]at hv;exact go _ s hro mk rs k hv
theorem Xf{k:Bn->Prop}{k':Tm->Bool}{g:Nat}{marks:List Nat} (hk:∀T T',AR c S C ⟨T,g⟩ ⟨T',marks,g⟩->k T->k' T'=true):∀{vs:List V} {ws:List Value} {i:Nat} {T:Bn} {T':Tm},jQ c S C vs ws->AR c S C ⟨T,g⟩ ⟨T',marks,g⟩->
 fD (β:=Nat->Bn->Prop) (fun _ T=>k T) (fun a _ ih i T=>JR a T i fun T=>ih (Nat.succ i) T) vs i T->
 fD (β:=Nat->Tm->Bool) (fun _ T=>k' T) (fun a _ ih i T=>qH a T i fun T=>cF (Nat.succ i) fun i=>ih i T) ws i T'=true:=by
 intro vs;induction vs with
 | nil=>intro ws i T T' rs a hv;rw [rs.pB];exact hk _ _ a hv
 | cons v vs ih=>
  intro ws i T T' rs a hv;obtain⟨w,ws',rfl,rv,rs⟩:=rs.cons_inv;rw [bG]at hv ⊢;obtain⟨h1,h2⟩:=IC hv;rw [NA (by rw [show T'.n=T.n from a.n.symm];exact h1),bI];exact ih rs (a.put rv) h2
theorem Rg{k:Bn->Prop}{k':Tm->Bool}{g:Nat}{marks:List Nat} (hk:∀T T',AR c S C ⟨T,g⟩ ⟨T',marks,g⟩->k T->k' T'=true):∀{ps:List Tmp} {vs:List V} {ws:List Value} {T:Bn} {T':Tm},jQ c S C vs ws->AR c S C ⟨T,g⟩ ⟨T',marks,g⟩->Wf ps vs T k->Ei ps ws T' k'=true:=by
 intro ps;induction ps with
 | nil=>
  intro vs ws T T' rs a hv;cases vs with
  | nil=>rw [rs.pB];exact hk _ _ a hv
  | cons v vs=>cases hv
 | cons p ps ih=>
  intro vs ws T T' rs a hv;cases vs with
  | nil=>cases hv
  | cons v vs=>
   obtain⟨w,ws',rfl,rv,rs⟩:=rs.cons_inv;have hv:JR v T p (fun T=>Wf ps vs T k):=hv;obtain⟨h1,h2⟩:=IC hv;show qH w T' p (fun T=>Ei ps ws' T k')=true;rw [NA (by rw [show T'.n=T.n from a.n.symm];exact h1)];exact ih rs (a.put rv) h2
def Cx.at (c:Cx) (n:Nat):Cx:=⟨c.Zz,c.G,c.Yz,n⟩
theorem Cx.at0 (c:Cx) (n:Nat):c.le0 (c.at n):=⟨fun _ _ e=>e,fun _ _ _ e=>e,fun _ _ e=>e⟩
theorem Fc.refl:Fc C S S C:=⟨Nat.le_refl _,fun _ _ _ _ _ _ e=>e,fun _ h=> .inl h⟩
theorem VS.at (s:VS P B Sb c h S) (n:Nat):VS P B Sb (c.at n) h S:=by
 refine⟨s.base,s.bB,fun i o e eg=>?_,fun i vs t m e=>?_,s.inj,s.Gs,s.room,s.JT,s.Gb,s.old⟩
 ·obtain⟨b,a,a1,a2,a3,a4,a5⟩:=s.ob i o e eg
  exact⟨b,a,a1,a2,a3,a4,a5.mono' (c.at0 n) .refl⟩
 ·obtain⟨b,ws,olds,sz,a1,a2,a3,a4,a5,a6⟩:=s.iD i vs t m e
  exact⟨b,ws,olds,sz,a1,a2,a3,a4,a5.mono' (c.at0 n) .refl,a6⟩
def kill (l:List Nat) (S:St):St:=l.foldl (fun S d=>S.set d .dead) S
theorem KY:∀(l:List Nat) (S:St),(kill l S).n=S.n:=by
 intro l;induction l with
 | nil=>intro S;rfl
 | cons d l ih=>intro S;exact ih _
theorem vL:∀(l:List Nat) (S:St) {b:Nat},b∉l->(kill l S).obj b=S.obj b:=by
 intro l;induction l with
 | nil=>intro S b _;rfl
 | cons d l ih=>
  intro S b hb;have:=ih (S.set d .dead) (b:=b) (fun h=>hb (.tail _ h));refine Eq.trans this ?_;exact iV fun e=>hb (e▸ .head _)
theorem Rh:∀(l:List Nat) (S:St) (k:St->Bool),l.Nodup->(∀d∈l,S.obj d=some .defers)->DK l S k=k (kill l S):=by
 intro l;induction l with
 | nil=>intro S k _ _;rfl
 | cons d l ih=>
  intro S k hn ho;show(oV S.h d fun o=>match o with | .defers=>pV S d .dead fun S=>DK l S k | _=>false)=_;rw [Bz (ho d (.head _))];simp only;rw [fS];obtain⟨h1,h2⟩:=List.nodup_cons.1 hn;exact ih _ k h2 fun x hx=>by rw [iV (fun e:x=d=>h1 (e▸hx))];exact ho x (.tail _ hx)
theorem Nm{l:List Nat} (hd:∀d∈l,S.obj d=some .defers):Fc C S (kill l S) C:=by
 refine⟨Nat.le_of_eq (KY l S).symm,fun b h1 h2 vs e ck ho=>?_,fun _ h=> .inl h⟩;rw [vL l S (fun hb=>by rw [hd b hb]at ho;cases ho)];exact ho
theorem VS.kill (s:VS P B Sb c h S){l:List Nat} (hd:∀d∈l,Sb.n<=d/\¬dB B c h d/\S.obj d=some .defers):VS P B Sb c h (Am.kill l S):=by
 have fc:Fc (dB B c h) S (Am.kill l S) (dB B c h):=Nm fun d hx=>(hd d hx).2.2;have l0:c.le0 c:=⟨fun _ _ e=>e,fun _ _ _ e=>e,fun _ _ e=>e⟩;refine⟨⟨by rw [KY];exact s.base.n,fun j hj=>?_⟩,s.bB,fun i o e eg=>?_,fun i vs t m e=>?_,s.inj,s.Gs,s.room,s.JT,fun i vs t n m b e e3=>by rw [KY];exact s.Gb i vs t n m b e e3,fun i vs t n b ws e' olds e e3 e4=>s.old i vs t n b ws e' olds e e3 (by rw [vL l S (fun hx=>(hd b hx).2.1 (.inr ⟨i,.inr ⟨vs,t,n,n,e,e3⟩⟩))]at e4;exact e4)⟩
 ·rw [vL l S (fun hx=>by have:=(hd j hx).1;omega)]
  exact s.base.same j hj
 ·obtain⟨b,a,a1,a2,a3,a4,a5⟩:=s.ob i o e eg
  have hb:b∉l:=fun hx=>(hd b hx).2.1 (.inr ⟨i,.inl ⟨o,e,eg,a1⟩⟩);exact⟨b,a,a1,a2,by rw [KY];exact a3,by rw [vL l S hb];exact a4,a5.mono' l0 fc⟩
 ·obtain⟨b,ws,olds,sz,a1,a2,a3,a4,a5,a6⟩:=s.iD i vs t m e
  have hb:b∉l:=fun hx=>(hd b hx).2.1 (.inr ⟨i,.inr ⟨vs,t,m,m,e,a1⟩⟩);exact⟨b,ws,olds,sz,a1,a2,by rw [KY];exact a3,by rw [vL l S hb];exact a4,a5.mono' l0 fc,a6⟩
theorem Cb (s:VS P B Sb c h S){A:VA}{A':aX} (a:AR c S (dB B c h) A A'):∀{rs:List ResultVar} {k:List V->Prop} {k':List Value->Bool},AB P rs A h k->(∀vs ws,jQ c S (dB B c h) vs ws->k vs->k' ws=true)->pJ P rs A' S k'=true:=by
 intro rs;induction rs with
 | nil=>intro k k' hv hk;exact hk [] [] .nil hv
 | cons x rs ih=>
  intro k k' hv hk;cases x with
  | tmp t=>
   have hv:Bo A.tmps t (fun v=>AB P rs A h fun vs=>k (v::vs)):=hv;show JE A'.tmps t (fun v=>pJ P rs A' S fun vs=>k' (v::vs))=true;exact vV a hv fun v w rv hv=>ih hv fun vs ws rs hv=>hk _ _ (.cons rv rs) hv
  | cell x t=>
   have e1:AB P (.cell x t::rs) A h k=match qI P t,bQ P t with
    | some false,_=>Bo A.tmps x fun a=>aE a h fun v _=>AB P rs A h fun vs=>k (v::vs)
    | some true,some (n+1)=>Bo A.tmps x fun a=>dK (n+1) a h fun v _=>AB P rs A h fun vs=>k (v::vs)
    | _,_=>False:=rfl
   rw [e1]at hv;show JE A'.tmps x (fun a=>CA P t a S fun v _=>pJ P rs A' S fun vs=>k' (v::vs))=true;split at hv
   ·rename_i h1
    refine vV a hv fun v w rv hv=>?_;rw [OU h1];exact Nk s rv (fun u y ru hu=>ih hu fun vs ws rs hv=>hk _ _ (.cons ru rs) hv) hv
   ·rename_i n h1 h2
    refine vV a hv fun v w rv hv=>?_;rw [OV h1 h2];exact Gj s (by omega) rv (fun u y ru hu=>ih hu fun vs ws rs hv=>hk _ _ (.cons ru rs) hv) hv
   ·cases hv
theorem UV (s:VS P B Sb c h S){v:V}{w:Value} (rv:fB c S (dB B c h) v w){Kv:KV}{K:VK} (k:KR P B Sb c h S Kv K) (hv:aS v h Kv):K w S=true:=by
 obtain⟨h',u,hle,hf,hv⟩:=hv;obtain⟨d,O,le,s2,f2,r2⟩:=aDp s hle rv hf;exact k d h' S _ w le f2 s2 r2 (hv O)
theorem aA8{tb:FuncId->oC}{Ev:VE}{E:Env} (r:ER P B Sb Ev E) (f:FuncId){args:List V}{ws:List Value}{Kv:KV}{K:VK} (s:VS P B Sb c h S) (ra:jQ c S (dB B c h) args ws) (k:KR P B Sb c h S Kv K) (hv:nP P tb f Ev args h Kv):fnX P tb f E ws S K=true:=by
 unfold nP at hv;unfold fnX;cases hf:P.funcs[f]? with
 | none=>simp only [hf]at hv
 | some fn=>
  simp only [hf]at hv ⊢;cases hb:fn.body with
  | none=>simp only [hb]at hv
  | some q=>
   simp only [hb]at hv ⊢;rw [bI];have m0:RS (c.at S.n) S (dB B c h) []:=⟨Nat.le_refl _,.nil,fun d hd=>by cases hd⟩;refine Xf (c:=c.at S.n) (g:=P.globals.size) (fun T T' a hv=>?_) (ra.mono' (c.at0 _) .refl) (.leaf m0) hv;refine ID r (Ca r uR) q (s.at S.n) (.inl ⟨rfl,rfl⟩) a ?_ hv;intro c' h' S' X X' e l f s' x hv
   have fin:AB P fn.results.toList X h' (fun vs=>match vs with | [v]=>aS v h' Kv | vs=>aS (.tuple vs) h' Kv)->DK X'.marks S' (fun S=>pJ P fn.results.toList X' S fun vs=>match vs with | [v]=>K v S | vs=>K (.tuple ⟨vs⟩) S)=true:=by
    intro hv;have hm:=x.marks;have hn0:c'.n0=S.n:=l.n0;rw [Rh X'.marks S' _ hm.nd fun d hd=>(hm.ok d hd).2.2.2];have s1:VS P B Sb c' h' (kill X'.marks S'):=s'.kill fun d hd=>⟨by have:=(hm.ok d hd).1;have:=s.base.n;omega,(hm.ok d hd).2.2.1,(hm.ok d hd).2.2.2⟩;have s2:VS P B Sb (c'.at c.n0) h' (kill X'.marks S'):=s1.at c.n0;have jX:c.le (c'.at c.n0):=⟨fun i b e=>l.Zz i b e,fun i n v e=>l.G i n v e,fun i v e=>l.Yz i v e,rfl⟩
    have f2:uN (dB B c h) S (kill X'.marks S') (dB B c' h'):=by
     refine⟨by rw [KY];exact f.n,fun b h1 h2=>?_,f.sub⟩;rw [vL _ _ fun hx=>by have:=(hm.ok b hx).1;omega];exact f.same b h1 h2
    have fc:Fc (dB B c' h') S' (kill X'.marks S') (dB B c' h'):=Nm fun d hd=>(hm.ok d hd).2.2.2
    have x2:AR c' (kill X'.marks S') (dB B c' h') X ⟨X'.tmps,[],X'.g⟩:=
     ⟨x.n,x.g,⟨by rw [KY];exact hm.n0,.nil,fun d hd=>by cases hd⟩,fun i v e=>let⟨w,p,q⟩:=x.got i v e;⟨w,p,(q.mono' ⟨fun _ _ e=>e,fun _ _ _ e=>e,fun _ _ e=>e⟩ fc)⟩,x.abs⟩
    show pJ P fn.results.toList ⟨X'.tmps,[],X'.g⟩ (kill X'.marks S') (fun vs=>match vs with | [v]=>K v (kill X'.marks S') | vs=>K (.tuple ⟨vs⟩) (kill X'.marks S'))=true;refine Cb s1 x2 hv fun vs ws rs hv=>?_;have rs:jQ (c'.at c.n0) (kill X'.marks S') (dB B (c'.at c.n0) h') vs ws:=rs.mono' (c'.at0 c.n0) .refl;have kk:KR P B Sb (c'.at c.n0) h' (kill X'.marks S') Kv K:=fun c2 h2 S2 v w l2 f3=>k c2 h2 S2 v w (jX.trans l2) (f2.trans f3)
    match vs,ws,rs,hv with
    | [v],ws,rs,hv=>
     obtain⟨w,ws',rfl,rv,rs⟩:=rs.cons_inv;rw [rs.pB];exact UV s2 rv kk hv
    | [],ws,rs,hv=>
     rw [rs.pB];exact UV s2 (.tuple (a':=[]) rfl fun k v w e=>by simp at e) kk hv
    | a::b::vs,ws,rs,hv=>
     obtain⟨w,ws',rfl,rv,rs⟩:=rs.cons_inv;obtain⟨w2,ws2,rfl,QV,rs⟩:=rs.cons_inv;exact UV s2 (.tuple (jQ.cons rv (.cons QV rs)).len (jQ.cons rv (.cons QV rs)).rd) kk hv
   cases e with
   | normal=>exact fin hv
   | ret=>exact fin hv
   | exit i=>cases hv
theorem Xg{T:Tm}{g:Nat}:∀{ls:List Nat} {vs:List V},vs.length=ls.length->(∀(j i:Nat) (v:V),ls[j]? =some i->vs[j]? =some v->∃w,T.t.get i=some w/\fB c S C v w)->∃ws,jQ c S C vs ws/\∀k':List Value->Bool,tR ls ⟨T,[],g⟩ k'=k' ws:=by
 intro ls;induction ls with
 | nil=>
  intro vs hl _;obtain rfl:vs=[]:=List.eq_nil_of_length_eq_zero (by simpa using hl);exact⟨[],.nil,fun k'=>rfl⟩
 | cons i ls ih=>
  intro vs hl hg;cases vs with
  | nil=>simp at hl
  | cons v vs=>
   obtain⟨w,e,rv⟩:=hg 0 i v rfl rfl;obtain⟨ws,rs,hk⟩:=ih (vs:=vs) (by simpa using hl) fun j x u h1 h2=>hg (j+1) x u (by simpa using h1) (by simpa using h2);refine⟨w::ws,.cons rv rs,fun k'=>?_⟩;show JE T i (fun v=>tR ls ⟨T,[],g⟩ fun vs=>k' (v::vs))=_;unfold JE;rw [nF,e];exact hk _
theorem PO{l b:Nat}{st:LoopState}{pe:Option Code}{bb:Bool}{Kv:KV}{K:VK} (s:VS P B Sb c h S) (hb:c.Zz l=some b) (k:KR P B Sb c h S Kv K) (hv:JN l st pe bb h Kv):
 ∃T ps as bo st' Lz,S.obj b=some (.loop T ps as bo st' Lz)/\K (.bool bb) (S.set b (.loop T ps as bo st pe))=true:=by
 unfold JN at hv;split at hv
 ·rename_i ls vs n ps as bo st' Lz e
  obtain⟨b',ao,b1,b2,b3,b4,b5⟩:=s.ob l _ e rfl;rw [hb]at b1;injection b1 with b1;subst b1;obtain⟨T,rfl,b6,b7,b8⟩:=b5
  obtain⟨s3,f3⟩:=s.Gh e rfl hb (o:= .loop ls vs n ps as bo st pe) (ao:= .loop T ps as bo st pe) rfl (fun S' C' f=>⟨T,rfl,b6,b7,fun j i v e1 e2=>by
   obtain⟨w,g1,g2⟩:=b8 j i v e1 e2;exact⟨w,g1,g2.mono (.refl _) f⟩⟩)
  exact⟨T,ps,as,bo,st',Lz,b4,k _ _ _ _ _ (.refl _) f3 s3 .bool hv⟩
 ·cases hv
theorem Kl{tb:FuncId->oC}{Ev:VE}{E:Env} (r:ER P B Sb Ev E) (l b:Nat){args:List V}{ws:List Value}{Kv:KV}{K:VK} (s:VS P B Sb c h S) (hb:c.Zz l=some b) (ra:jQ c S (dB B c h) args ws) (k:KR P B Sb c h S Kv K) (hv:KQ P tb Ev l args h Kv):TZ P tb E b ws S K=true:=by
 unfold KQ at hv;split at hv
 ·rename_i ls vs n ps as bo st pe e
  obtain⟨rfl,hv⟩:=hv;obtain⟨b',ao,b1,b2,b3,b4,b5⟩:=s.ob l _ e rfl;rw [hb]at b1;injection b1 with b1;subst b1;obtain⟨T,rfl,rfl,b7,b8⟩:=b5;unfold TZ;rw [Bz b4];simp only;have m0:RS (c.at S.n) S (dB B c h) []:=⟨Nat.le_refl _,.nil,fun d hd=>by cases hd⟩;obtain⟨us,rs,hus⟩:=Xg (g:=P.globals.size) b7 b8;rw [hus];unfold Bi at hv;refine EP (c:=c.at S.n) m0 (rs.mono' (c.at0 _) .refl) hv fun X X' x hv=>?_;refine Rg (g:=P.globals.size) (marks:=[]) (fun T1 T1' a hv=>?_) (ra.mono' (c.at0 _) .refl) (show AR (c.at S.n) S (dB B c h) ⟨X.tmps,P.globals.size⟩ ⟨X'.tmps,[],P.globals.size⟩from⟨x.n,rfl,m0,x.got,x.abs⟩) hv
  have back:∀{c':Cx} {h':Hp} {S':St},(c.at S.n).le c'->uN (dB B c h) S S' (dB B c' h')->KR P B Sb (c'.at c.n0) h' S' Kv K:=by
   intro c' h' S' l1 f1 c2 h2 S2 v w l2 f2;have l3:c.le (c'.at c.n0):=⟨fun i b e=>l1.Zz i b e,fun i n v e=>l1.G i n v e,fun i v e=>l1.Yz i v e,rfl⟩;exact k c2 h2 S2 v w (l3.trans l2) (f1.trans f2)
  refine ID r (Ca r uR) as (s.at S.n) (.inr ⟨l,b,rfl,rfl,hb⟩) a ?_ hv;intro c' h' S' Y Y' e' l1 f1 s' y hv;cases e' with
  | exit i=>cases hv
  | ret=>cases hv
  | normal=>
   have hv:YL l h' (fun S=>(oD P (tb (OX T.n bo)) (some l) (IS P (tb (OX T.n bo)) (some l) uR) bo).f Ev Y S (aGg l Kv)):=hv;have hb':c'.Zz l=some b:=l1.Zz _ _ hb;unfold YL at hv;split at hv
   ·rename_i ls2 vs2 n2 ps2 as2 bo2 pe2 e2
    obtain⟨b',ao,q1,q2,q3,q4,q5⟩:=s'.ob l _ e2 rfl;rw [hb']at q1;injection q1 with q1;subst q1;obtain⟨T2,rfl,q6,q7,q8⟩:=q5
    show(oV S'.h b fun o=>match o with
     | .loop tm ps as bo' .ready pe=>pV S' b (.loop tm ps as bo' .busy pe) fun S=>(mB P (tb (OX T.n bo)) (Py P (tb (OX T.n bo)) uR) bo).f E (some b) Y' S (aAK b K)
     | _=>false)=true
    rw [Bz q4];simp only;rw [fS]
    obtain⟨s3,f3⟩:=s'.Gh e2 rfl hb' (o:= .loop ls2 vs2 n2 ps2 as2 bo2 .busy pe2) (ao:= .loop T2 ps2 as2 bo2 .busy pe2) rfl (fun S' C' f=>⟨T2,rfl,q6,q7,fun j i v e1 e2=>by
     obtain⟨w,g1,g2⟩:=q8 j i v e1 e2;exact⟨w,g1,g2.mono (.refl _) f⟩⟩)
    refine ID r (Ca r uR) bo s3 (.inr ⟨l,b,rfl,rfl,hb'⟩) (y.mono (.refl _) f3) ?_ hv;intro c2 h2 S2 Z Z' e3 l2 f2 s2 z hv;have hb2:c2.Zz l=some b:=l2.Zz _ _ hb';have kk:=back (l1.trans l2) ((f1.trans f3).trans f2);unfold aAK;cases e3 with
    | normal=>
     obtain⟨T3,ps3,as3,bo3,st3,pe3,g1,g2⟩:=PO (s2.at c.n0) hb2 kk hv;rw [Bz g1];simp only;rw [fS];exact g2
    | ret=>
     obtain⟨T3,ps3,as3,bo3,st3,pe3,g1,g2⟩:=PO (s2.at c.n0) hb2 kk hv;rw [Bz g1];simp only;rw [fS];exact g2
    | exit i=>
     obtain⟨T3,ps3,as3,bo3,st3,pe3,g1,g2⟩:=PO (s2.at c.n0) hb2 kk hv;rw [Bz g1];simp only;rw [fS];exact g2
   ·cases hv
 ·cases hv
def aCz (P:Program) (B:Nat->Prop) (Sb:St) (ovv:XE) (ov:FuncId->Option (List Value->St->VK->Bool)):Prop:=
 (∀f,ovv f=none->ov f=none)/\∀f g,ovv f=some g->∃g',ov f=some g'/\∀{args:List V} {ws:List Value} {c:Cx} {h:Hp} {S:St} {Kv:KV} {K:VK},VS P B Sb c h S->jQ c S (dB B c h) args ws->KR P B Sb c h S Kv K->g args h Kv->g' ws S K=true
theorem Xh{tb:FuncId->oC}{ovv:XE}{ov:FuncId->Option (List Value->St->VK->Bool)} (ho:aCz P B Sb ovv ov) (most:Nat):∀n,ER P B Sb (Bj P tb ovv most n) (Pz P tb ov most n):=by
 intro n;induction n with
 | zero=>exact⟨rfl,rfl,fun f args ws c h S Kv K s ra k hv=>(by cases hv),fun l b args ws c h S Kv K s hb ra k hv=>(by cases hv)⟩
 | succ n ih=>
  refine⟨rfl,rfl,fun f args ws c h S Kv K s ra k hv=>?_,fun l b args ws c h S Kv K s hb ra k hv=>Kl ih l b s hb ra k hv⟩;have hv:(match ovv f with | some g=>g args h Kv | none=>nP P tb f (Bj P tb ovv most n) args h Kv):=hv;show(match ov f with | some g=>g ws S K | none=>fnX P tb f (Pz P tb ov most n) ws S K)=true;cases hf:ovv f with
  | none=>
   rw [hf]at hv;rw [ho.1 f hf];exact aA8 ih f s ra k hv
  | some g=>
   rw [hf]at hv;obtain⟨g',e,hg⟩:=ho.2 f g hf;rw [e];exact hg s ra k hv
end
section
variable (P:Program) (T:oC) (r:Option Nat) (E:VE)
theorem XD (m:Nat) (k k':Nat->Code->CV->Prop) (h:∀D c K,k D c K=lX m False fun _=>k' D c K):∀(p:List Dir) (D:Nat) (c:Code) (ms:List Nat) (K:CV),oJ P T r E p D c ms K k=lX m False fun _=>oJ P T r E p D c ms K k':=by
 have hf:(False:Prop)=lX m False fun _=>False:=by cases m<;>rfl
 intro p;induction p with
 | nil=>intro D c ms K;exact h D c K
 | cons q p ih=>
  intro D c ms K
  cases q<;>cases c<;>first
   | exact hf
   | exact ih _ _ _ _
   | (cases D with
      | zero=>exact hf
      | succ D=>cases ms with
       | nil=>exact hf
       | cons m ms=>exact ih _ _ _ _)
end
section
variable{P:Program}{tb:FuncId->oC}
theorem nI (f:FuncId) (E:VE) (p:List Dir) (ms:List Nat) (vs:List V) (S:Hp) (K:KV) (hm:E.most≠0):xO P tb f E p ms vs S K=xP P tb f E p ms vs S K:=by
 obtain⟨m,hm⟩:=Nat.exists_eq_succ_of_ne_zero hm;unfold xO xP;cases P.funcs[f]? with
 | none=>rfl
 | some fn=>
  simp only;cases fn.body with
  | none=>rfl
  | some c=>
   simp only
   rw [XD P (tb f) none E E.most _ (fun D c K=>match xE (tb f) c with
    | some l=>dX S fun S=>EE l vs fn.ntmps P.globals.size fun A=>(oD P (tb f) none (IS P (tb f) none D) c).f E A S K
    | none=>False) (fun D c K=>by
     cases xE (tb f) c with
     | none=>rw [hm];rfl
     | some l=>rfl),hm]
   rfl
theorem Qn{E:VE}{l n:Nat}{ls:List Nat}{vs args:List V}{ps:List Tmp}{as bo:Code}{st:LoopState}{pe:Option Code}{S:Hp}{K:KV} (h:S l=some (.loop ls vs n ps as bo st pe)) (e:ls=YJ tb n bo) (hr:Bi P tb E n ps as bo l vs args S K):KQ P tb E l args S K:=by
 unfold KQ;simp only [h];exact⟨e,hr⟩
theorem aK{v:V}{S:Hp}{K:KV} (h:K v S):aS v S K:=⟨S,fun _=>v,fun _ _ h=>h,fun _=> .one (.keep v),fun _=>h⟩
theorem aN{S:Hp}{k:Hp->Prop} (h:k S):dX S k:=⟨S,fun _ _ h=>h,h⟩
theorem lE{S:Hp}{k:Hp->Prop} (S':Hp) (l:dL S' S) (h:k S'):dX S k:=⟨S',l,h⟩
theorem VE.YN{E:VE}{c:FuncId}{args:List V}{S:Hp}{K:KV} (h:E.C c args S K):E.call c args S K:=
 ⟨S,fun _=>args,fun _ _ h=>h,fun _=>⟨rfl,fun j v u a b=>by rw [a]at b;injection b with b;subst b;exact .keep v⟩,fun _=>h⟩
theorem YO{ov:XE}{most n:Nat}{f:FuncId} (h:ov f=none) (args:List V) (S:Hp) (K:KV):(Bj P tb ov most (n+1)).C f args S K=nP P tb f (Bj P tb ov most n) args S K:=by
 show(match(generalizing:=false) ov f with | some g=>g args S K | none=>nP P tb f (Bj P tb ov most n) args S K)=_;rw [h]
theorem aAV{ov:XE}{most n:Nat}{f:FuncId}{g:List V->Hp->KV->Prop} (h:ov f=some g) (args:List V) (S:Hp) (K:KV):(Bj P tb ov most (n+1)).C f args S K=g args S K:=by
 show(match(generalizing:=false) ov f with | some g=>g args S K | none=>nP P tb f (Bj P tb ov most n) args S K)=_;rw [h]
end
end Go.Am
namespace Go.Rm
open Go.ChangeMaps (setBlock)
open Go Go.ChangeMaps Go.MapKept
structure zX (es:Array MapEntry) (clock:Nat):Prop where
 old:∀x∈es.toList,x.born<clock
 nodup:(es.toList.map (·.born)).Nodup
def GO (w:World) (b r:Nat) (es:Array MapEntry) (clock:Nat) (done todo:List MapEntry):Prop:=
 w.heap[b]? =some (.map es clock)/\zX es clock/\
 (∃seen c0,w.heap[r]? =some (.mapIter (some b) clock seen c0)/\clock<=c0/\todo=(leftOf es seen).toList)/\(done++todo).Perm es.toList
variable{P:Program}{w:World}{b r:Nat}{es:Array MapEntry}{clock:Nat}{done todo:List MapEntry}
theorem GO.ne (h:GO w b r es clock done todo):r≠b:=by
 obtain⟨hb,_,⟨seen,c0,hr,_⟩,_⟩:=h;intro e;rw [e,hb]at hr;cases hr
theorem GO.lt (h:GO w b r es clock done todo):r<w.heap.size:=by
 obtain⟨hb,_,⟨seen,c0,hr,_⟩,_⟩:=h;exact(Array.getElem?_eq_some_iff.1 hr).1
theorem GO.aDd (h:GO w b r es clock done todo):b<w.heap.size:=(Array.getElem?_eq_some_iff.1 h.1).1
theorem GO.left_eq (h:GO w b r es clock done todo):w.rangeLeft b r=todo.length:=by
 obtain⟨hb,_,⟨seen,c0,hr,_,ht⟩,_⟩:=h;simp only [World.rangeLeft,hb,hr,ht];simp
theorem GO.PA{w':World} (h:GO w b r es clock done todo) (hb':w'.heap[b]? =w.heap[b]?) (hr':w'.heap[r]? =w.heap[r]?):GO w' b r es clock done todo:=by
 obtain⟨hb,hs,⟨seen,c0,hr,hc,ht⟩,hp⟩:=h;exact⟨hb'.trans hb,hs,⟨seen,c0,hr'.trans hr,hc,ht⟩,hp⟩
theorem GO.kept{w':World}{row:Option Nat} (h:GO w b r es clock done todo) (hg:w.grownBy w' row) (hb':some b≠row) (hr':some r≠row):GO w' b r es clock done todo:=
 h.PA (hg.block b h.aDd hb') (hg.block r h.lt hr')
theorem GO.start (hb:w.heap[b]? =some (.map es clock)) (hs:zX es clock):GO (w.alloc (.mapIter (some b) clock #[] clock)) b w.heap.size es clock [] es.toList:=by
 have hlt:=(Array.getElem?_eq_some_iff.1 hb).1;refine⟨((MapKept.heap_alloc w _).2 b hlt).trans hb,hs,⟨#[],clock,(MapKept.heap_alloc w _).1,Nat.le_refl _,?_⟩,by simp⟩;unfold leftOf;rw [Array.toList_filter,List.filter_eq_self.2];intro x _;simp
theorem PB{l:List MapEntry} (hn:(l.map (·.born)).Nodup){e:MapEntry} (he:e∈l):l.Perm (e::l.filter (fun x=> !(x.born==e.born))):=by
 induction l with
 | nil=>cases he
 | cons a l ih=>
  simp only [List.map_cons,List.nodup_cons]at hn;by_cases hae:a=e
  ·subst hae
   simp only [List.filter_cons,beq_self_eq_true,Bool.not_true,Bool.false_eq_true,if_false];rw [List.filter_eq_self.2];intro x hx;have:x.born≠a.born:=fun h=>hn.1 (h▸List.mem_map.2 ⟨x,hx,rfl⟩);simp [this]
  ·have he':e∈l:=by
    rcases List.mem_cons.1 he with h | h
    ·exact absurd h.symm hae
    ·exact h
   have hb:a.born≠e.born:=fun h=>hn.1 (h▸List.mem_map.2 ⟨e,he',rfl⟩)
   have:(a::l).filter (fun x=> !(x.born==e.born))=a::l.filter (fun x=> !(x.born==e.born)):=by
    simp [hb]
   rw [this];exact((ih hn.2 he').cons a).trans (List.Perm.swap e a _)
theorem GO.next (h:GO w b r es clock done todo) (ty:TypeId):
 (todo=[]/\(Instr.next (.pointer (some ⟨r,0,none⟩)) false ty).run P w= .ok (.tuple #[.bool false]) w)\/
 ∃e todo' w',todo.Perm (e::todo')/\(Instr.next (.pointer (some ⟨r,0,none⟩)) false ty).run P w= .ok (.tuple #[.bool true,e.key,e.val]) w'/\
  GO w' b r es clock (done++[e]) todo'/\w.grownBy w' (some r)/\w'.heap.size=w.heap.size/\(Instr.entry (.pointer (some ⟨r,0,none⟩))).run P w'= .ok (.tuple #[e.key,e.val]) w':=by
 have hne:=h.ne;obtain⟨hb,hs,⟨seen,c0,hr,hc,ht⟩,hp⟩:=h;rcases run_next_at (P:=P) w ty r b clock c0 seen es clock hr hb hs.old hc with ⟨h0,hrun⟩ | ⟨e,he,w1,hal,hrun⟩
 ·left
  refine⟨?_,hrun⟩;rw [ht];exact List.eq_nil_of_length_eq_zero (by simpa using h0)
 ·right
  have hem:e∈es.toList:=by
   have:=(mem_left he).1;exact this
  have hr1:w1.heap[r]? =some (.mapIter (some b) clock seen c0):=by rcases hal with rfl | rfl<;>exact hr
  have hb1:w1.heap[b]? =some (.map es clock):=by rcases hal with rfl | rfl<;>exact hb
  have hset:=heap_set (o':= .mapIter (some b) clock (seen.push e.born) clock) hr1;have hb':(setBlock w1 r (.mapIter (some b) clock (seen.push e.born) clock)).heap[b]? =some (.map es clock):=(hset.2 b (fun e1=>hne e1.symm)).trans hb1
  have hnl:((leftOf es seen).toList.map (·.born)).Nodup:=by
   refine hs.nodup.sublist ?_;refine List.Sublist.map _ ?_;unfold leftOf;rw [Array.toList_filter];exact List.filter_sublist
  have hpe:=PB hnl he
  have hleft:(leftOf es (seen.push e.born)).toList=(leftOf es seen).toList.filter (fun x=> !(x.born==e.born)):=by
   unfold leftOf;rw [Array.toList_filter,Array.toList_filter,List.filter_filter]
   congr 1
   funext x
   rw [contains_push];cases seen.contains x.born<;>cases(x.born==e.born)<;>rfl
  refine⟨e,(leftOf es (seen.push e.born)).toList,_,by rw [ht,hleft];exact hpe,hrun,⟨hb',hs,⟨_,clock,hset.1,Nat.le_refl _,rfl⟩,?_⟩,?_,?_,run_entry_at _ r b clock seen es clock e hset.1 hb' hem hs.nodup⟩
  ·rw [hleft,List.append_assoc]
   exact((hpe.symm).append_left done).trans (ht▸hp)
  ·rcases hal with rfl | rfl<;>exact⟨rfl,rfl,rfl,by simp [setBlock],fun i _ hi=>hset.2 i (fun e1=>hi (by rw [e1]))⟩
  ·rcases hal with rfl | rfl<;>simp [setBlock]
section
variable{ops:Array Oper}{rest:List Oper}{o:Oper}{a:Act}{Q:Exit->Act->World->Prop}
theorem PC (hg:o.guard=none) (m:Operand) (t:TypeId) (hop:o.op=Op.range t m) (k e:TypeId) (ht:P.underlying t=some (.map k e))
 (hm:a.eval m= .map (some b)) (hb:w.heap[b]? =some (.map es clock)) (hs:zX es clock)
 (hK:∀w',w'=w.alloc (.mapIter (some b) clock #[] clock)->GO w' b w.heap.size es clock [] es.toList->wpList P ops Q rest (a.put o.dst (.pointer (some ⟨w.heap.size,0,none⟩))) w'):
 wpList P ops Q (o::rest) a w:=by
 refine wpList_plain hg fun K' hK'=>?_;unfold Oper.wp;simp [execOp,hop,hm,run_range_map w t k e b es clock ht hb,Result.andThen];exact hK' _ _ (hK _ rfl (GO.start hb hs))
theorem RN (hg:o.guard=none) (it:Operand) (hop:o.op=Op.next it false) (hit:a.eval it= .pointer (some ⟨r,0,none⟩)) (h:GO w b r es clock done todo)
 (hDone:todo=[]->wpList P ops Q rest (a.put o.dst (.tuple #[.bool false])) w)
 (hMore:∀(e:MapEntry) (todo':List MapEntry) (w':World),todo.Perm (e::todo')->GO w' b r es clock (done++[e]) todo'->w.grownBy w' (some r)->w'.heap.size=w.heap.size->
  (Instr.entry (.pointer (some ⟨r,0,none⟩))).run P w'= .ok (.tuple #[e.key,e.val]) w'->wpList P ops Q rest (a.put o.dst (.tuple #[.bool true,e.key,e.val])) w'):
 wpList P ops Q (o::rest) a w:=by
 refine wpList_plain hg fun K' hK'=>?_;unfold Oper.wp;rcases h.next (P:=P) o.type with ⟨h0,hrun⟩ | ⟨e,todo',w',hp,hrun,hrg,hgr,hsz,hen⟩
 ·simp [execOp,hop,hit,hrun,Result.andThen]
  exact hK' _ _ (hDone h0)
 ·simp [execOp,hop,hit,hrun,Result.andThen]
  exact hK' _ _ (hMore e todo' w' hp hrg hgr hsz hen)
variable{F:Fence}{n:Nat}
theorem KL (hg:o.guard=none) (m:Operand) (t:TypeId) (hop:o.op=Op.range t m) (k e:TypeId) (ht:P.underlying t=some (.map k e))
 (hm:a.eval m= .map (some b)) (hb:w.heap[b]? =some (.map es clock)) (hs:zX es clock)
 (hK:∀w',w'=w.alloc (.mapIter (some b) clock #[] clock)->GO w' b w.heap.size es clock [] es.toList->wpListIn F n P ops Q rest (a.put o.dst (.pointer (some ⟨w.heap.size,0,none⟩))) w'):
 wpListIn F n P ops Q (o::rest) a w:=by
 refine wpListIn_plain hg fun K' hK'=>?_;unfold Oper.wpIn;refine⟨by simp [Oper.about,hop],?_⟩;rw [Oper.semAt_plain F _ _ (by rw [hop];intro c hc';cases hc')];simp [execOp,hop,hm,run_range_map w t k e b es clock ht hb,Result.andThen];exact hK' _ _ (hK _ rfl (GO.start hb hs))
theorem MW (hg:o.guard=none) (it:Operand) (hop:o.op=Op.next it false) (hit:a.eval it= .pointer (some ⟨r,0,none⟩)) (h:GO w b r es clock done todo)
 (hDone:todo=[]->wpListIn F n P ops Q rest (a.put o.dst (.tuple #[.bool false])) w)
 (hMore:∀(e:MapEntry) (todo':List MapEntry) (w':World),todo.Perm (e::todo')->GO w' b r es clock (done++[e]) todo'->w.grownBy w' (some r)->w'.heap.size=w.heap.size->
  (Instr.entry (.pointer (some ⟨r,0,none⟩))).run P w'= .ok (.tuple #[e.key,e.val]) w'->wpListIn F n P ops Q rest (a.put o.dst (.tuple #[.bool true,e.key,e.val])) w'):
 wpListIn F n P ops Q (o::rest) a w:=by
 refine wpListIn_plain hg fun K' hK'=>?_;unfold Oper.wpIn;refine⟨by simp [Oper.about,hop],?_⟩;rw [Oper.semAt_plain F _ _ (by rw [hop];intro c hc';cases hc')];rcases h.next (P:=P) o.type with ⟨h0,hrun⟩ | ⟨e,todo',w',hp,hrun,hrg,hgr,hsz,hen⟩
 ·simp [execOp,hop,hit,hrun,Result.andThen]
  exact hK' _ _ (hDone h0)
 ·simp [execOp,hop,hit,hrun,Result.andThen]
  exact hK' _ _ (hMore e todo' w' hp hrg hgr hsz hen)
end
end Go.Rm
namespace Go.Am
open Go.RowKit Go.MapKept
section
variable{P:Program}{S S' S0:Hp}{K:KV}
theorem cP{i:Nat}{a b:Ob}:upd (upd S i a) i b=upd S i b:=by
 funext j
 unfold upd;by_cases h:j=i
 ·rw [if_pos h,if_pos h]
 ·rw [if_neg h,if_neg h,if_neg h]
theorem Vs{i j:Nat}{a b:Ob} (h:i≠j):upd (upd S i a) j b=upd (upd S j b) i a:=by
 funext k
 unfold upd;by_cases h1:k=j
 ·subst h1;rw [if_pos rfl,if_neg (Ne.symm h),if_pos rfl]
 ·rw [if_neg h1]
  by_cases h2:k=i
  ·rw [if_pos h2,if_pos h2]
  ·rw [if_neg h2,if_neg h2,if_neg h1]
theorem Vu{i:Nat}{a:Ob} (h:S i=some a):upd S i a=S:=by
 funext j
 unfold upd;by_cases e:j=i
 ·rw [if_pos e,e,h]
 ·rw [if_neg e]
theorem dL.refl (S:Hp):dL S S:=fun _ _ h=>h
theorem dL.trans{a b c:Hp} (h:dL a b) (k:dL b c):dL a c:=fun i o e=>k i o (h i o e)
theorem dL.aV{i:Nat}{a:Ob} (h:S i=none):dL S (upd S i a):=fun j o e=>by
 unfold upd;by_cases h1:j=i
 ·subst h1;rw [h]at e;cases e
 ·rw [if_neg h1];exact e
theorem dL.upd{i:Nat}{a:Ob} (h:dL S S'):dL (upd S i a) (upd S' i a):=fun j o e=>by
 unfold Am.upd at e ⊢;by_cases h1:j=i
 ·rw [if_pos h1]at e ⊢;exact e
 ·rw [if_neg h1]at e ⊢;exact h j o e
@[simp] theorem aJ {i o:Nat} {vs:List V} {t:TypeId} (h:S i=some (.row vs t)):aE (.ptr i o) S K=MY vs o fun v=>K v S:=by
  show(match S i with | some (.row vs _)=>MY vs o fun v=>K v S | _=>False)=_;rw [h]
@[simp] theorem BV {n i o:Nat} {vs:List V} {t:TypeId} (h:S i=some (.row vs t)):dK n (.ptr i o) S K=GS vs o n fun l=>K (.agg l) S:=by
  show(match S i with | some (.row vs _)=>GS vs o n fun l=>K (.agg l) S | _=>False)=_;rw [h]
theorem JP{O:Tag}{cs:List Dt}{o:Nat}:aE (.tS O cs o) S K=MY cs o fun d=>K (T (.sub O o) d) S:=rfl
theorem KT{n:Nat}{O:Tag}{cs:List Dt}{o:Nat}:dK n (.tS O cs o) S K=GS cs o n fun l=>K (.agg (Tl O o l)) S:=rfl
theorem eO{off i o:Nat}{k:V->Prop}:aD off (.ptr i o) k=k (.ptr i (o+off)):=rfl
theorem PH{off o:Nat}{O:Tag}{cs:List Dt}{k:V->Prop}:aD off (.tS O cs o) k=k (.tS O cs (o+off)):=rfl
theorem aP{i o:Nat}{k:V->Prop}:aQ P (.ptr i o) k=k (.ptr i o):=rfl
theorem aT{b:Bool}{p q:Prop}:fC (.bool b) p q=if b then p else q:=by cases b<;>rfl
theorem aR{c:Bool}{a b:V}{k:V->Prop}:aL (.bool c) a b k=k (if c then a else b):=by cases c<;>rfl
theorem aH{w:Bool}{op:KV->Prop}{k:KV}:aB w (.bool w) op S k=op k:=by cases w<;>rfl
theorem dF{op:KV->Prop}{k:KV}:aB true (.bool false) op S k=k yM S:=rfl
theorem bL{op:KV->Prop}{k:KV}:aB false (.bool true) op S k=k yM S:=rfl
theorem iY{O:Tag}{cs:List Dt}{n:Nat}{k:V->Prop}:cY (.list O cs n) k=k (.int .i64 (.ofNat n)):=rfl
theorem qN{size n:Nat}{O:Tag}{cs:List Dt}{j:IntKind}{i:Nat} (h:i<n){k:V->Prop}:fQ size (.list O cs n) (.int j (.ofNat i)) k=k (.tS O cs (i*size)):=by
 show(i<n/\_)=_;simp [h]
theorem jF{α:Type}{l:List α}{i:Nat}{a:α} (h:l[i]? =some a){k:α->Prop}:MY l i k=k a:=by unfold MY;rw [h]
theorem eE{α:Type}{l:List α}{o n:Nat} (h:o+n<=l.length){k:List α->Prop}:GS l o n k=k ((l.drop o).take n):=by unfold GS;simp [h]
structure Made (el:TypeId) (size:Nat) (S0:Hp) (t:V) (S:Hp) (vs:List V) (n:Nat):Prop where
 is:(n=0/\t= .nil/\S=S0)\/∃i,t= .acc i n/\S0 i=none/\S=upd S0 i (.iD vs el n)
 len:vs.length=n*size
theorem Made.nil{el:TypeId}{size:Nat}:Made el size S0 .nil S0 [] 0:=⟨.inl ⟨rfl,rfl,rfl⟩,by simp⟩
theorem Made.app{el:TypeId}{size bytes n m:Nat}{t x:V}{vs new:List V} (a:Made el size S0 t S vs n) (hs:dL S S') (hf:∀i,S' i=none->S0 i=none) (hx:∀k:Nat->List V->Prop,k m new->zY size x S' k) (hm:0<m) (hn:new.length=m*size) (ho:new.all lL=true) (hb:(n+m)*(bytes+1)<=1099511627776)
 (hk:∀t2 S2 S3,Made el size S0 t2 S3 (vs++new) (n+m)->dL S3 S2->K t2 S2):oP el size bytes t x S' K:=by
 obtain⟨p,rfl⟩:=Nat.exists_eq_succ_of_ne_zero (Nat.ne_of_gt hm);unfold oP;refine hx _ ?_;refine⟨ho,?_⟩;have hlen:(vs++new).length=(n+(p+1))*size:=by rw [List.length_append,a.len,hn,Nat.add_mul]
 rcases a.is with ⟨rfl,rfl,rfl⟩ | ⟨i,rfl,h0,rfl⟩
 ·have hvs:vs=[]:=List.eq_nil_of_length_eq_zero (by simpa using a.len)
  subst hvs;refine⟨by simpa using hb,fun i hi=>?_⟩;have h:=hk (.acc i (0+(p+1))) (upd S' i (.iD new el (0+(p+1)))) (upd S i (.iD new el (0+(p+1)))) ⟨.inr ⟨i,rfl,hf i hi,rfl⟩,by simpa using hlen⟩ hs.upd;simpa using h
 ·have e:S' i=some (.iD vs el n):=hs i _ upd_same
  simp only [e];refine⟨trivial,trivial,a.len,hb,?_⟩;refine hk _ _ (upd S0 i (.iD (vs++new) el (n+(p+1)))) ⟨.inr ⟨i,rfl,h0,rfl⟩,hlen⟩ ?_;have:=hs.upd (i:=i) (a:= .iD (vs++new) el (n+(p+1)))
  rwa [cP]at this
theorem Made.ret{el:TypeId}{size n:Nat}{t:V}{vs:List V}{cs:List Dt} (a:Made el size S0 t S vs n) (hc:vs.length=cs.length) (hr:∀(j:Nat) (v:V) (d:Dt),vs[j]? =some v->cs[j]? =some d->RQ S0 S v d) (hk:∀O,K (.list O cs n) S0):aS t S K:=by
 rcases a.is with ⟨rfl,rfl,rfl⟩ | ⟨i,rfl,h0,rfl⟩
 ·have hvs:vs=[]:=List.eq_nil_of_length_eq_zero (by simpa using a.len)
  subst hvs;have:cs=[]:=List.eq_nil_of_length_eq_zero (by simpa using hc.symm);subst this;exact⟨S,fun O=>T (O 0) (.list [] 0),.refl S,fun O=> .one (.dat .nil),fun O=>hk _⟩
 ·exact⟨S0,fun O=>T (O 0) (.list cs n),.aV h0,fun O=> .one (.dat (.acc upd_same h0 hc hr)),fun O=>hk _⟩
theorem dL.none{a b:Hp} (h:dL a b){i:Nat} (e:b i=none):a i=none:=by
 cases q:a i with
 | none=>rfl
 | some o=>rw [h i o q]at e;cases e
theorem pL{i j:Nat}{a:Ob} (e:upd S i a j=none):j≠i/\S j=none:=by
 by_cases h:j=i
 ·subst h;rw [upd_same]at e;cases e
 ·rw [aG h]at e;exact⟨h,e⟩
theorem Made.le{el:TypeId}{size n:Nat}{t:V}{vs:List V} (a:Made el size S0 t S vs n):dL S0 S:=by
 rcases a.is with ⟨_,_,rfl⟩ | ⟨i,_,h0,rfl⟩
 ·exact .refl _
 ·exact .aV h0
theorem RQ.T{O:Tag}{d:Dt}:RQ S' S (T O d) d:=by
 cases d with
 | int=>exact .int
 | bool=>exact .bool
 | str=>exact .str
 | list=>exact .list
theorem oQ{el:TypeId}{n:Nat}{zero:List Value}{z cs:List V} (hz:KO zero=some z) (hzl:z.length=n) (hc:cs.length=n) (ho:cs.all lL=true) (hk:∀j,S j=none->K (.own j 0 1 1) (upd S j (.row cs el))):dP el 1 zero [(0,n,.agg cs)] S K:=by
 unfold dP wJ;rw [hz];show wK [(0,n,.agg cs)] (List.replicate 1 z).flatten _;unfold wK;refine⟨ho,hc,by simp [hzl],?_⟩;unfold wK;have:splice 0 cs (List.replicate 1 z).flatten=cs:=by simp [splice,hc,<-hzl]
 rw [this];exact hk
theorem zZ{size i m c:Nat}{vs:List V}{t:TypeId} (h:S i=some (.row vs t)) (hl:vs.length=m*size){k:Nat->List V->Prop} (hk:k m vs):zY size (.own i 0 m c) S k:=by
 unfold zY;simp only [h];rw [eE (by omega),List.drop_zero,List.take_of_length_le (by omega)];exact hk
theorem aI{t:TypeId}{k:IntKind}{x y:Int}{K:V->Prop}:aF P .lss t (.int k x) (.int k y) K=K (.bool (decide (x<y))):=by simp [aF,sI,GT]
theorem pU{t:TypeId}{k:IntKind}{x y:Int}{K:V->Prop}:aF P .leq t (.int k x) (.int k y) K=K (.bool (decide (x<=y))):=by simp [aF,sI,GT]
theorem dN{t:TypeId}{k:IntKind}{x y:Int}{K:V->Prop}:aF P .gtr t (.int k x) (.int k y) K=K (.bool (decide (y<x))):=by simp [aF,sI,GT]
theorem dG{t:TypeId}{k:IntKind}{x y:Int}{K:V->Prop}:aF P .geq t (.int k x) (.int k y) K=K (.bool (decide (y<=x))):=by simp [aF,sI,GT]
theorem bW{t:TypeId}{k:IntKind}{x y:Int}{K:V->Prop}:aF P .eql t (.int k x) (.int k y) K=K (.bool (decide (x=y))):=by simp [aF,sI,GT]
theorem cW{t:TypeId}{k:IntKind}{x y:Int}{K:V->Prop}:aF P .neq t (.int k x) (.int k y) K=K (.bool (!decide (x=y))):=by simp [aF,sI,GT]
theorem bA{t:TypeId}{k:IntKind}{x y:Int}{K:V->Prop}:aF P .add t (.int k x) (.int k y) K=K (.int k (kC k (x+y))):=by simp [aF,sI,GT]
theorem lV{t:TypeId}{k:IntKind}{x y:Int}{K:V->Prop}:aF P .sub t (.int k x) (.int k y) K=K (.int k (kC k (x-y))):=by simp [aF,sI,GT]
theorem HU{t:TypeId}{k:IntKind}{x y:Int}{K:V->Prop}:aF P .mul t (.int k x) (.int k y) K=K (.int k (kC k (x*y))):=by simp [aF,sI,GT]
theorem PI{t:TypeId}{k:IntKind}{x y:Int} (hy:y≠0){K:V->Prop}:aF P .rem t (.int k x) (.int k y) K=K (.int k (x.tmod y)):=by simp [aF,sI,GT,hy]
theorem gL{t:TypeId}{x y:List UInt8}{K:V->Prop}:aF P .eql t (.str x) (.str y) K=K (.bool (decide (x=y))):=by simp [aF,Nf]
theorem Qo{t:TypeId}{x y:List UInt8}{K:V->Prop}:aF P .lss t (.str x) (.str y) K=K (.bool (Op.bytesLess x y)):=by simp [aF,Nf]
theorem kT{t:TypeId}{x y:List UInt8}{K:V->Prop}:aF P .neq t (.str x) (.str y) K=K (.bool (!decide (x=y))):=by simp [aF,Nf]
theorem wrap_small{n:Int} (h0: -9223372036854775808<=n) (h1:n<=9223372036854775807):kC .i64 n=n:=by
 rw [LZ,wrap_in _ _ (by simpa [IntKind.min,IntKind.bits,IntKind.signed]using h0) (by simpa [IntKind.max,IntKind.bits,IntKind.signed]using h1)]
theorem fF{i:Nat} (h:i<4611686018427387904):kC .i64 (Int.ofNat i+Int.ofNat 1)=Int.ofNat (i+1):=by
 rw [wrap_small]<;>simp<;>omega
end
def Deep (P:Program) (tb:FuncId->oC) (ov:XE) (M:Nat):Nat->VE->Prop
 | 0,x=>x.most=M
 | n+1,x=>x.most=M/\(∀f g,ov f=some g->x.C f=g)/\∃y,Deep P tb ov M n y/\(∀f,ov f=none->∀args S K,x.C f args S K=nP P tb f y args S K)/\∀l args S K,x.R l args S K=KQ P tb y l args S K
section
variable{P:Program}{tb:FuncId->oC}{ov:XE}{M:Nat}{x:VE}{S:Hp}{K:KV}
theorem Deep.most{n:Nat} (h:Deep P tb ov M n x):x.most=M:=by cases n with | zero=>exact h | succ n=>exact h.1
theorem Deep.less{n:Nat} (h:Deep P tb ov M (n+1) x):Deep P tb ov M n x:=by
 induction n generalizing x with
 | zero=>exact h.1
 | succ n ih=>
  obtain⟨h1,h2,y,h3,h4⟩:=h;exact⟨h1,h2,y,ih h3,h4⟩
theorem Deep.call{n:Nat} (hx:Deep P tb ov M (n+1) x){f:FuncId} (hf:ov f=none){args:List V} (h:∀y,Deep P tb ov M n y->nP P tb f y args S K):x.call f args S K:=by
 obtain⟨h1,h2,y,h3,h4,_⟩:=hx;exact VE.YN (by rw [h4 f hf];exact h y h3)
theorem Deep.round{n:Nat} (hx:Deep P tb ov M (n+1) x){l:Nat}{args:List V} (h:∀y,Deep P tb ov M n y->KQ P tb y l args S K):x.R l args S K:=by
 obtain⟨h1,h2,y,h3,h4,h5⟩:=hx;rw [h5];exact h y h3
theorem Deep.EG{n:Nat} (hx:Deep P tb ov M (n+1) x){f:FuncId}{g:List V->Hp->KV->Prop} (hf:ov f=some g){args:List V} (h:g args S K):x.call f args S K:=by
 obtain⟨h1,h2,_⟩:=hx;exact VE.YN (by rw [h2 f g hf];exact h)
theorem Qp (n:Nat):Deep P tb ov M n (Bj P tb ov M n):=by
 induction n with
 | zero=>rfl
 | succ n ih=>exact⟨rfl,fun f g h=>by funext args S K;exact aAV h args S K,_,ih,fun f h args S K=>YO h args S K,fun l args S K=>rfl⟩
theorem dQ{i o:Nat}{vs:List V}{t:TypeId}{v:V} (h:S i=some (.row vs t)) (ho:lL v=true) (hl:o<vs.length){k:Hp->Prop} (hk:k (upd S i (.row (splice o [v] vs) t))):jK 1 (.ptr i o) v S k:=by
 unfold jK;simp only [h];unfold EC;cases v<;>first | (cases ho;done) | exact⟨rfl,by omega,hk⟩
theorem iO{i o:Nat}{vs:List V}{t:TypeId}{v:V} (h:S i=some (.row vs t)) (hv:vs[o]? =some v) (hk:K v S):aE (.ptr i o) S K:=by
 rw [aJ h,jF hv];exact hk
theorem cI{v:V}{S':Hp} (l:dL S' S) (h:K v S'):aS v S K:=⟨S',fun _=>v,l,fun _=> .one (.keep v),fun _=>h⟩
theorem eQ{t:TypeId}{cs:List V} (ho:cs.all lL=true) (hk:∀i,S i=none->K (.ptr i 0) (upd S i (.row cs t))):nW t (.agg cs) S K:=⟨ho,hk⟩
theorem yN{l:List UInt8}{k:V->Prop}:xN (.str l) k=k (.int .i64 (.ofNat l.length)):=rfl
theorem cG{z:List Value}{l:List V}{t:TypeId} (hz:KO z=some l) (hk:∀i,S i=none->K (.ptr i 0) (upd S i (.row l t))):fE z t S K:=by
 unfold fE wJ;rw [hz];exact hk
theorem yO{t:TypeId}{i o:Nat} (h:YM P t=some .ptr){k:V->Prop} (hk:k (.bool false)):aF P .eql t (.ptr i o) .pW k:=⟨rfl,h,.inr rfl,(fun e=>by cases e),hk⟩
theorem Fx{sh:Sz}{z a:V}{ok:Bool}{m:Nat}{es:List (V×V)} (hm:S m=some (.map es)) (ha:KP sh a) (ho:∀e∈es,KP sh e.1) (h1:∀v,RP es a=some v->K (Bh ok v true) S) (h2:RP es a=none->K (Bh ok z false) S):MZ sh z ok (.rS m) a S K:=by
 unfold MZ;simp only [hm];exact⟨ha,ho,h1,h2⟩
theorem gE{n i:Nat}{vs cs:List V}{t:TypeId} (h:S i=some (.row vs t)) (ho:cs.all lL=true) (hc:cs.length=n) (hl:vs.length=n){k:Hp->Prop} (hk:k (upd S i (.row cs t))):jK n (.ptr i 0) (.agg cs) S k:=by
 unfold jK;simp only [h];refine⟨ho,hc,by omega,?_⟩;have:splice 0 cs vs=cs:=by simp [splice,hc,<-hl]
 rw [this];exact hk
theorem fT{n i:Nat}{vs:List V}{t:TypeId} (h:S i=some (.row vs t)) (hl:vs.length=n) (hk:K (.agg vs) S):dK n (.ptr i 0) S K:=by
 rw [BV h,eE (by omega),List.drop_zero,List.take_of_length_le (by omega)];exact hk
theorem tT{v:V}{k:Prop} (h:UG v=true) (hk:k):aY v v k:=⟨rfl,h,hk⟩
theorem BH{i:Nat}{vs:List V}{v:V}{k:V->Prop} (h:vs[i]? =some v) (hk:k v):lU i (.tuple vs) k:=by
 show MY vs i k;rw [jF h];exact hk
theorem UH{w:Bool}{op:KV->Prop}{k:KV}:aB w yM op S k=k yM S:=by cases w<;>rfl
theorem gB{w:Bool}{u:V}{op:Prop->Prop}{k:Prop}:bN w (.bool w) u op k=op k:=by cases w<;>rfl
theorem vJ{op:Prop->Prop}{k:Prop}:bN true (.bool false) yM op k=k:=rfl
theorem EH{op:Prop->Prop}{k:Prop}:bN false (.bool true) yM op k=k:=rfl
theorem YP{w:Bool}{op:Prop->Prop}{k:Prop}:bN w yM yM op k=k:=by cases w<;>rfl
end
section
variable{P:Program}{S S' S0:Hp}{K:KV}{x:VE}
theorem dR{size n b:Nat}{j:IntKind}{i:Nat} (h:i<n){k:V->Prop}:fQ size (.acc b n) (.int j (.ofNat i)) k=k (.nV b n (i*size)):=by
 show(i<n/\_)=_;simp [h]
theorem CL{size n b o q c:Nat}{j:IntKind}{i:Nat} (h:i<q){k:V->Prop}:fQ size (.FN b n o q c) (.int j (.ofNat i)) k=k (.nV b n (o+i*size)):=by
 show(i<q/\_)=_;simp [h]
theorem jW{b n:Nat}{k:V->Prop}:cY (.acc b n) k=k (.int .i64 (.ofNat n)):=rfl
theorem HV{b n o q c:Nat}{k:V->Prop}:cY (.FN b n o q c) k=k (.int .i64 (.ofNat q)):=rfl
theorem HW{k:V->Prop}:cY .nil k=k (.int .i64 (.ofNat 0)):=rfl
theorem JQ{i n o:Nat}{vs:List V}{t:TypeId}{v:V} (h:S i=some (.iD vs t n)) (hv:vs[o]? =some v) (hk:K v S):aE (.nV i n o) S K:=by
 unfold aE;simp only [h];exact⟨trivial,by rw [jF hv];exact hk⟩
theorem Ng{i n o:Nat}{vs:List V}{t:TypeId}{v:V} (h:S i=some (.iD vs t n)) (ho:lL v=true) (hl:o<vs.length){k:Hp->Prop} (hk:k (upd S i (.iD (splice o [v] vs) t n))):jK 1 (.nV i n o) v S k:=by
 unfold jK;simp only [h];unfold EC;cases v<;>first | (cases ho;done) | exact⟨trivial,rfl,by omega,hk⟩
theorem HY{el size i n a:Nat}{vs:List V}{j:IntKind} (h:S i=some (.iD vs el n)) (hl:a<n){k:V->Prop} (hk:k (.FN i n (a*size) (n-a) (n-a))):uO el size (.acc i n) (some (.int j (.ofNat a))) none none S k:=by
 unfold uO;simp only [h];refine⟨trivial,trivial,?_⟩;show a<=n/\n<=n/\n<=n/\(a<n->k _)/\_;refine⟨by omega,by omega,by omega,fun _=>?_,fun e=>absurd e (by omega)⟩;rw [Nat.zero_add];exact hk
theorem Bk{el size i n a:Nat}{vs:List V}{j:IntKind} (h:S i=some (.iD vs el n)) (h0:0<n) (hl:a<=n){k:V->Prop} (hk:k (.FN i n 0 a n)):uO el size (.acc i n) none (some (.int j (.ofNat a))) none S k:=by
 unfold uO;simp only [h];refine⟨trivial,trivial,?_⟩;show 0<=a/\a<=n/\n<=n/\(0<n->k _)/\_;refine⟨by omega,by omega,by omega,fun _=>?_,fun e=>absurd e (by omega)⟩;simpa using hk
theorem Fy{el size i n:Nat}{vs:List V}{j:IntKind} (h:S i=some (.iD vs el n)){k:V->Prop} (hk:k (.emp i n)):uO el size (.acc i n) (some (.int j (.ofNat n))) none none S k:=by
 unfold uO;simp only [h];refine⟨trivial,trivial,?_⟩;show n<=n/\n<=n/\n<=n/\(n<n->k _)/\_;exact⟨by omega,by omega,by omega,fun e=>absurd e (by omega),fun _=>hk⟩
theorem UI{zero:List Value}{z vs:List V}{i n o q c:Nat}{t:TypeId} (h:S i=some (.iD vs t n)) (hz:KO zero=some z) (hq:0<q) (hl:o+(List.replicate q z).flatten.length<=vs.length){k:Hp->Prop} (hk:k (upd S i (.iD (splice o (List.replicate q z).flatten vs) t n))):ED zero (.FN i n o q c) S k:=by
 obtain⟨p,rfl⟩:=Nat.exists_eq_succ_of_ne_zero (Nat.ne_of_gt hq);unfold ED wJ;simp only [hz,h];exact⟨trivial,hl,hk⟩
def del (S:Hp) (i:Nat):Hp:=fun j=>if j=i then none else S j
theorem Vv{i:Nat}:dL (del S i) S:=fun j o e=>by
 unfold del at e;by_cases h:j=i
 ·rw [if_pos h]at e;cases e
 ·rw [if_neg h]at e;exact e
theorem Ga{i:Nat}:del S i i=none:=if_pos rfl
theorem Vw{l n:Nat}{ls:List Nat}{vs:List V}{ps:List Tmp}{as bo:Code}{pe:Option Code} (h:S l=some (.loop ls vs n ps as bo .ready pe)){k:Hp->Prop} (hk:k (upd S l (.loop ls vs n ps as bo .busy pe))):YL l S k:=by
 unfold YL;simp only [h];exact hk
theorem Gc{l n:Nat}{ls:List Nat}{vs:List V}{ps:List Tmp}{as bo:Code}{st st':LoopState}{pe Lz:Option Code}{b:Bool} (h:S l=some (.loop ls vs n ps as bo st pe)) (hk:K (.bool b) (upd S l (.loop ls vs n ps as bo st' Lz))):JN l st' Lz b S K:=by
 unfold JN;simp only [h];exact hk
theorem Gd{l n:Nat}{ls:List Nat}{vs:List V}{ps:List Tmp}{as bo:Code}{st:LoopState}{pe:Option Code} (h:S l=some (.loop ls vs n ps as bo st pe)) (hs:st≠ .busy){k:Option Code->Hp->Prop} (hk:k pe (upd S l (.loop ls vs n ps as bo .exhausted pe))):Fw l S k:=by
 unfold Fw;simp only [h];cases st<;>first | exact absurd rfl hs | exact hk
theorem Qq{g n:Nat}{a c:List V}{ls:List Nat}{vs:List V}{ps:List Tmp}{as bo:Code}{k:Option Code->Hp->Prop} (hk:∀l,S l=none->x.call g (a++[.yield l]++c) (upd S l (.loop ls vs n ps as bo .ready none)) fun _ S=>Fw l S k):PJ x (.func g a c) ls vs n ps as bo S k:=hk
theorem aAW{kn kr:Prop}{ke:Nat->Prop}:QT none kn kr ke=kn:=rfl
theorem aAX{kn kr:Prop}{ke:Nat->Prop}:QT (some .ret) kn kr ke=kr:=rfl
theorem Vx{l:Nat}{args:List V}:PK x (.yield l) args S K=x.R l args S K:=rfl
theorem EI{vs:List V}{o:Nat}{v:V} (h:o<vs.length):splice o [v] vs=vs.set o v:=by
 unfold splice;apply List.ext_getElem?;intro j;rw [List.getElem?_set];by_cases h1:j<o
 ·rw [if_neg (by omega),List.append_assoc,List.getElem?_append_left (by rw [List.length_take];omega),List.getElem?_take,if_pos h1]
 ·by_cases h2:j=o
  ·subst h2
   rw [if_pos rfl,if_pos h,List.getElem?_append_left (by simp;omega),List.getElem?_append_right (by rw [List.length_take];omega),List.length_take];rw [show j-min j vs.length=0 by omega];rfl
  ·rw [if_neg (by omega),List.getElem?_append_right (by simp;omega),List.getElem?_drop]
   simp only [List.length_append,List.length_take,List.length_cons,List.length_nil];rw [show o+(0+1)+(j-(min o vs.length+(0+1)))=j by omega]
end
section
variable{P:Program}{S S':Hp}{K:KV}{x:VE}
theorem aO{off i:Nat}{k:V->Prop}:aD off (.ptr i 0) k=k (.ptr i off):=by show k (.ptr i (0+off))=_;rw [Nat.zero_add]
theorem oZ{a:V}{l:List V}{k:V->Prop}:lU 0 (.tuple (a::l)) k=k a:=rfl
theorem pA{a b:V}{l:List V}{k:V->Prop}:lU 1 (.tuple (a::b::l)) k=k b:=rfl
theorem rT{v:V}{p:Prop} (h:UG v=true):aY v v p=p:=propext ⟨fun q=>q.2.2,fun q=>⟨rfl,h,q⟩⟩
theorem cZ{k:IntKind}{z:Int}{p:Prop}:aY (.int k z) (.int k z) p=p:=rT rfl
theorem tU{l:List UInt8}{p:Prop}:aY (.str l) (.str l) p=p:=rT rfl
theorem yP{b:Bool}{p:Prop}:aY (.bool b) (.bool b) p=p:=rT rfl
theorem Bl{i o:Nat}{p:Prop}:aY (.ptr i o) (.ptr i o) p=p:=rT rfl
theorem SJ{O:Tag}{cs:List Dt}{n:Nat}{p:Prop}:aY (.list O cs n) (.list O cs n) p=p:=rT rfl
theorem fG{b:Bool}{k:V->Prop}:GU .not (.bool b) k=k (.bool (!b)):=rfl
theorem vK{v:V}{b:Bool}{cs:List Dt}{n:Nat} (l:dL S' S) (h:RQ S' S v (.list cs n)) (hk:∀O,K (.tuple [.list O cs n,.bool b]) S'):aS (.tuple [v,.bool b]) S K:=by
 refine⟨S',fun O=> .tuple [.list (O 0) cs n,.bool b],l,fun O=> .tup ⟨rfl,fun j v u e1 e2=>?_⟩,fun O=>hk _⟩
 match j with
 | 0=>simp at e1 e2;subst e1 e2;exact .dat h
 | 1=>simp at e1 e2;subst e1 e2;exact .keep _
 | j+2=>simp at e1
theorem rU{v:V}{cs:List Dt}{n:Nat} (l:dL S' S) (h:RQ S' S v (.list cs n)) (hk:∀O,K (.list O cs n) S'):aS v S K:=
 ⟨S',fun O=> .list (O 0) cs n,l,fun _=> .one (.dat h),fun _=>hk _⟩
end
theorem mapM_some{α β:Type}{f:α->Option β}:∀{l:List α} {xs:List β},l.mapM f=some xs->xs.length=l.length/\∀(i:Nat) (a:α),l[i]? =some a->∃x,xs[i]? =some x/\f a=some x:=by
 intro l;induction l with
 | nil=>intro xs h;simp at h;subst h;exact⟨rfl,fun i a h=>by simp at h⟩
 | cons b l ih=>
  intro xs h;rw [List.mapM_cons]at h;cases hb:f b with
  | none=>rw [hb]at h;cases h
  | some y=>
   rw [hb]at h;cases hl:l.mapM f with
   | none=>rw [hl]at h;cases h
   | some ys=>
    rw [hl]at h;have h:some (y::ys)=some xs:=h;injection h with h;subst h;obtain⟨i1,i2⟩:=ih hl;refine⟨by simp [i1],fun i a ha=>?_⟩;cases i with
    | zero=>simp at ha;subst ha;exact⟨y,rfl,hb⟩
    | succ i=>simpa using i2 i a (by simpa using ha)
def Iv (P:Program) (g:TypeId->Option (List It)):List Field->Nat->Option (List It)
 | [],_=>some []
 | fd::fs,off=>if fd.offset=off then match g fd.type,bQ P fd.type with
  | some its,some m=>if m=its.length then(Iv P g fs (off+m)).map (its++ ·)else none
  | _,_=>none else none
def Iw (P:Program):Nat->TypeId->Option (List It)
 | 0,_=>none
 | f+1,t=>match P.underlying t with
  | some .bool=>some [.is]
  | some (.int .u64)=>some [.num]
  | some (.int .u8)=>some [.kind]
  | some (.int .i64)=>some [.int]
  | some .string=>some [.text]
  | some (.slice e)=>match Iw P f e,bQ P e,P.bytesOf e with
   | some (i::its),some m,_+1=>if m=its.length+1 then(match i,its with | .num,[]=>some [.nums] | i,its=>some [.list (i::its)])else none
   | _,_,_=>none
  | some (.struct fs)=>match Iv P (Iw P f) fs.toList 0,bQ P t with
   | some its,some m=>if m=its.length then some its else none
   | _,_=>none
  | _=>none
def Lay (P:Program) (w:World) (U:Rn) (S:St):Prop:=Rel P w U S w/\∀i o,S.obj i=some o->o.reads=true
section
variable{P:Program}{w:World}
theorem Lay.add{U:Rn}{S:St} (h:Lay P w U S) (vs:List Value) (e:TypeId) (L:Loc){cs:Array Value}{t:TypeId}{fz:Nat×Nat} (hb:w.heap[L.b]? =some (.cells cs t fz))
 (hc:∀(j:Nat) (v:Value),vs[j]? =some v->∃v',cs[L.s+j]? =some v'/\VR U v v') (hm:bQ P e=some L.m) (hz:∀j,j<vs.length->¬(fz.1<=L.s+j/\L.s+j<fz.2)):
 Lay P w (U.put S.n L) (S.new (.cells vs e .rs))/\Ext U (U.put S.n L):=by
 obtain⟨h,hr⟩:=h;have hnone:=h.dom S.n (Nat.le_refl _);have he:Ext U (U.put S.n L):=Rn.BD hnone
 have hput:∀j M,U.put S.n L j=some M->(j=S.n/\M=L)\/(j≠S.n/\U j=some M):=fun j M hj=>by
  unfold Rn.put at hj;by_cases e:j=S.n
  ·rw [if_pos e]at hj;injection hj with hj;exact .inl ⟨e,hj.symm⟩
  ·rw [if_neg e]at hj;exact .inr ⟨e,hj⟩
 have mT:∀j x,(S.new (.cells vs e .rs)).obj j=some x->(j=S.n/\x= .cells vs e .rs)\/(j≠S.n/\S.obj j=some x):=fun j x hx=>by
  rw [DP]at hx;by_cases e:j=S.n
  ·rw [if_pos e]at hx;injection hx with hx;exact .inl ⟨e,hx.symm⟩
  ·rw [if_neg e]at hx;exact .inr ⟨e,hx⟩
 have hreads:∀j x,(S.new (.cells vs e .rs)).obj j=some x->x.reads=true:=fun j x hx=>by
  rcases mT j x hx with ⟨_,rfl⟩ | ⟨_,hx⟩
  ·rfl
  ·exact hr j x hx
 have hlt:L.b<w.heap.size:=(Array.getElem?_eq_some_iff.1 hb).1;refine⟨⟨⟨fun g hg=>let⟨M,h1,h2⟩:=h.RH g hg;⟨M,he _ _ h1,h2⟩,fun j x hx=>?_,fun j hj=>?_,fun j x hx=>?_,fun j M hj=>?_,fun i j a b M N hij ha hb' _ _ _ _ _=> .inl ⟨hreads i a ha,hreads j b hb'⟩,fun j us e' olds hj i hi=>?_,h.base⟩,hreads⟩,he⟩
 ·rcases mT j x hx with ⟨rfl,rfl⟩ | ⟨_,hx⟩
  ·exact⟨L,cs,t,fz,Rn.iJ _ _ _,hb,fun j v hv=>let⟨v',a,b⟩:=hc j v hv;⟨v',a,b.mono he⟩,hm,hz⟩
  ·exact(h.zK j x hx).frame he fun _ _=>rfl
 ·have hj':S.n+1<=j:=hj
  unfold Rn.put;rw [if_neg (by omega)];exact h.dom j (by omega)
 ·rcases mT j x hx with ⟨rfl,_⟩ | ⟨_,hx⟩
  ·exact Nat.lt_succ_self _
  ·exact Nat.lt_succ_of_lt (h.lt j x hx)
 ·rcases hput j M hj with ⟨_,rfl⟩ | ⟨_,hM⟩
  ·exact hlt
  ·exact h.loc j M hM
 ·have:=hreads j _ hj
  simp [gF.reads]at this
def oX (P:Program) (w:World) (cs:List Value) (its:List It):Prop:=
 ∀(U:Rn) (S:St),Lay P w U S->∃U' S' vs ds,Ext U U'/\Lay P w U' S'/\DZ S S'/\jP U' vs cs/\RdA S' (fun _=>False) its vs ds
theorem DZ.none{S S':St} (h:DZ S S'):uN (fun _=>False) S S' (fun _=>False):=h.fr _
theorem oX.plain{v:Value}{it:It}{d:D} (hf:bH v=true) (hr:∀S,Rd S (fun _=>False) it v d):oX P w [v] [it]:=fun U S h=>
 ⟨U,S,[v],[d],.refl U,h,.refl S,.cons (.flat hf) (.nil U),rfl,rfl,fun j it' v' d' a b c=>by
  cases j with
  | zero=>simp at a b c;subst a b c;exact hr S
  | succ j=>simp at a⟩
theorem oX.append{a b:List Value}{x y:List It} (h:oX P w a x) (k:oX P w b y):oX P w (a++b) (x++y):=fun U S hl=>by
 obtain⟨U1,S1,v1,d1,e1,l1,x1,r1,s1⟩:=h U S hl;obtain⟨U2,S2,v2,d2,e2,l2,x2,r2,s2⟩:=k U1 S1 l1;refine⟨U2,S2,v1++v2,d1++d2,e1.trans e2,l2,x1.trans x2,(r1.mono e2).append r2,by simp [s1.len,s2.len],by simp [s1.Ah,s2.Ah],fun j it v d p q r=>?_⟩;have s1':=s1.fr x2.none;by_cases hj:j<x.length
 ·rw [List.getElem?_append_left hj]at p
  rw [List.getElem?_append_left (by rw [s1.len];exact hj)]at q;rw [List.getElem?_append_left (by rw [s1.Ah];exact hj)]at r;exact s1'.rd j it v d p q r
 ·rw [List.getElem?_append_right (by omega)]at p
  rw [List.getElem?_append_right (by rw [s1.len];omega),s1.len]at q;rw [List.getElem?_append_right (by rw [s1.Ah];omega),s1.Ah]at r;exact s2.rd _ it v d p q r
theorem lay_all{its:List It}:∀{css:List (List Value)},(∀cs∈css,oX P w cs its)->∀(U:Rn) (S:St),Lay P w U S->∃(U':Rn) (S':St) (Mj:List (List Value)) (dss:List (List D)),Ext U U'/\Lay P w U' S'/\DZ S S'/\Mj.length=css.length/\dss.length=css.length/\
 (∀(k:Nat) (vs cs:List Value),Mj[k]? =some vs->css[k]? =some cs->jP U' vs cs)/\∀(k:Nat) (vs:List Value) (ds:List D),Mj[k]? =some vs->dss[k]? =some ds->RdA S' (fun _=>False) its vs ds:=by
 intro css;induction css with
 | nil=>intro _ U S h;exact⟨U,S,[],[],.refl U,h,.refl S,rfl,rfl,by simp,by simp⟩
 | cons cs css ih=>
  intro hall U S h;obtain⟨U1,S1,v1,d1,e1,l1,x1,r1,s1⟩:=hall cs (.head _) U S h;obtain⟨U2,S2,Mj,dss,e2,l2,x2,n1,n2,r2,s2⟩:=ih (fun c hc=>hall c (.tail _ hc)) U1 S1 l1;refine⟨U2,S2,v1::Mj,d1::dss,e1.trans e2,l2,x1.trans x2,by simp [n1],by simp [n2],fun k vs cs' a b=>?_,fun k vs ds a b=>?_⟩
  ·cases k with
   | zero=>simp at a b;subst a b;exact r1.mono e2
   | succ k=>exact r2 k vs cs' (by simpa using a) (by simpa using b)
  ·cases k with
   | zero=>simp at a b;subst a b;exact s1.fr x2.none
   | succ k=>exact s2 k vs ds (by simpa using a) (by simpa using b)
theorem QP{α:Type}{m:Nat}:∀{l:List (List α)},(∀x∈l,x.length=m)->∀(k j:Nat),j<m->l.flatten[k*m+j]? =(l[k]?).bind (·[j]?):=by
 intro l;induction l with
 | nil=>intro _ k j _;simp
 | cons x l ih=>
  intro h k j hj;have hx:=h x (.head _);cases k with
  | zero=>
   rw [List.flatten_cons,List.getElem?_append_left (by omega)];simp
  | succ k=>
   rw [List.flatten_cons,List.getElem?_append_right (by rw [hx,Nat.add_mul];omega),hx];rw [show(k+1)*m+j-m=k*m+j by rw [Nat.add_mul];omega,ih (fun y hy=>h y (.tail _ hy)) k j hj];simp
theorem Fa{α:Type}{m:Nat}:∀{l:List (List α)},(∀x∈l,x.length=m)->l.flatten.length=l.length*m:=by
 intro l;induction l with
 | nil=>intro _;simp
 | cons x l ih=>intro h;rw [List.flatten_cons,List.length_append,h x (.head _),ih fun y hy=>h y (.tail _ hy),List.length_cons,Nat.add_mul];omega
end
section
variable{P:Program}{w:World}
theorem QQ{a:Addr}{n:Nat}{cs:List Value} (h:w.cells? 0 a n=some cs) (hn:0<n):∃c t fz,w.heap[a.block]? =some (.cells c t fz)/\a.spot=none:=by
 unfold World.cells? at h;rw [if_pos (Nat.zero_le _)]at h;obtain⟨_,h2⟩:=mapM_some h;obtain⟨x,_,hx⟩:=h2 0 0 (by simp [hn]);have hx:w.cell? a=some x:=by simpa [Addr.add]using hx
 unfold World.cell? at hx;cases hb:w.heap[a.block]? with
 | none=>rw [hb]at hx;cases hx
 | some o=>
  rw [hb]at hx;cases o with
  | cells c t fz=>
   simp only at hx;cases hs:a.spot with
   | none=>exact⟨c,t,fz,rfl,rfl⟩
   | some s=>rw [hs]at hx;simp at hx
  | _=>cases hx
theorem Po{b off n:Nat}{cs:List Value}{c:Array Value}{t:TypeId}{fz:Nat×Nat} (h:w.cells? 0 ⟨b,off,none⟩ n=some cs) (hb:w.heap[b]? =some (.cells c t fz)):cs.length=n/\∀(j:Nat) (v:Value),cs[j]? =some v->c[off+j]? =some v:=by
 unfold World.cells? at h;rw [if_pos (Nat.zero_le _)]at h;obtain⟨h1,h2⟩:=mapM_some h;have h1:cs.length=n:=by simpa using h1
 refine⟨h1,fun j v hv=>?_⟩;have hj:j<n:=by rw [<-h1];exact(List.getElem?_eq_some_iff.1 hv).1
 obtain⟨x,hx,hc⟩:=h2 j j (by simp [hj]);rw [hv]at hx;injection hx with hx;subst hx;rw [nE]at hc;unfold World.cell? at hc;rw [hb]at hc;simpa using hc
variable{H:Type}{enc:TypeId×Value->H}
theorem Fb{e:TypeId}{x:Nat}:∀{l:List (DataW H)} {d:DataW H},d∈l->x∈d.weights P e->x∈DataW.weightsAll P e l:=by
 intro l;induction l with
 | nil=>intro d h;cases h
 | cons y l ih=>
  intro d h hx;rw [DataW.weightsAll];rcases List.mem_cons.1 h with rfl | h
  ·exact List.mem_append.2 (.inl hx)
  ·exact List.mem_append.2 (.inr (ih h hx))
theorem Pp{g:TypeId->Option (List It)}:∀{fs:List Field} {off:Nat} {its:List It},Iv P g fs off=some its->∀(cs:List Value) (F:TypeId->List Value->Option (DataW H×List MemPlace)) (xs:List (DataW H×List MemPlace)),
 (fs.mapM fun f=>F f.type ((cs.drop f.offset).take (P.cellsOf f.type)))=some xs->cs.length=off+its.length->
 (∀(k:Nat) (f:Field) (x:DataW H×List MemPlace),fs[k]? =some f->xs[k]? =some x->∀(i:List It) (c:List Value),g f.type=some i->F f.type c=some x->oX P w c i)->oX P w (cs.drop off) its:=by
 intro fs;induction fs with
 | nil=>
  intro off its h cs F xs _ hl _;unfold Iv at h;injection h with h;subst h;rw [List.drop_of_length_le (by simp at hl;omega)];exact fun U S hl=>⟨U,S,[],[],.refl U,hl,.refl S,.nil U,rfl,rfl,fun j it v d a=>by simp at a⟩
 | cons f fs ih=>
  intro off its h cs F xs hx hl hall;unfold Iv at h;split at h
  ·rename_i hoff
   split at h
   ·rename_i i m hg hm
    split at h
    ·rename_i hmi
     cases hr:Iv P g fs (off+m)with
     | none=>rw [hr]at h;cases h
     | some rest=>
      rw [hr]at h;have h:some (i++rest)=some its:=h;injection h with h;subst h;obtain⟨x1,x2⟩:=mapM_some hx;obtain⟨x,hx0,hF⟩:=x2 0 f rfl
      have hcm:P.cellsOf f.type=m:=by
       unfold Program.cellsOf;unfold bQ at hm;rw [hm];rfl
      rw [hcm,hoff]at hF;have h1:oX P w ((cs.drop off).take m) i:=hall 0 f x rfl hx0 i _ hg hF
      have hxs:∃ys,xs=x::ys:=by
       cases xs with
       | nil=>simp at hx0
       | cons y ys=>simp at hx0;subst hx0;exact⟨ys,rfl⟩
      obtain⟨ys,rfl⟩:=hxs
      have hys:(fs.mapM fun f=>F f.type ((cs.drop f.offset).take (P.cellsOf f.type)))=some ys:=by
       rw [List.mapM_cons]at hx;cases ha:F f.type ((cs.drop f.offset).take (P.cellsOf f.type))with
       | none=>rw [ha]at hx;cases hx
       | some y=>
        rw [ha]at hx;cases hb:(fs.mapM fun f=>F f.type ((cs.drop f.offset).take (P.cellsOf f.type)))with
        | none=>rw [hb]at hx;cases hx
        | some zs=>
         rw [hb]at hx;have hx:some (y::zs)=some (x::ys):=hx;injection hx with hx;injection hx with _ hx;rw [hx]
      have h2:=ih hr cs F ys hys (by rw [hl,List.length_append];omega) fun k f' x' a b=>hall (k+1) f' x' (by simpa using a) (by simpa using b);have:=h1.append h2
      rwa [show(cs.drop off).take m++cs.drop (off+m)=cs.drop off by rw [<-List.drop_drop];exact List.take_append_drop _ _]at this
    ·cases h
   ·cases h
  ·cases h
end
section
variable{P:Program}{w:World}{H:Type}{enc:TypeId×Value->H}
theorem Uf{k:IntKind}{n:Int} (h:(Lit.int k n).wf=true):k.min<=n/\n<=k.max:=by
 unfold Lit.wf at h;simpa using h
theorem Pq{a:Addr}{len cap m:Nat}{e:TypeId}{its:List It}{els:List (DataW H×List MemPlace)}{F:List Value->Option (DataW H×List MemPlace)} (hm:its.length=m) (hpos:0<m) (hsz:bQ P e=some m) (aHd:P.cellsOf e=m) (hlc:len<=cap)
 (hel:(List.range len).mapM (fun i=>(w.cells? 0 (a.add (i*m)) m).bind F)=some els) (hN:len<=140737488355328)
 (hsp:cap=0\/∃c t fz,w.heap[a.block]? =some (.cells c t fz)/\a.spot=none)
 (hz:∀i,i<len*m->w.frozen? ⟨a.block,a.off+i,none⟩=false)
 (hall:∀x∈els,∀cs,F cs=some x->oX P w cs its):
 ∀(U:Rn) (S:St),Lay P w U S->∃U' S' v ds,Ext U U'/\Lay P w U' S'/\DZ S S'/\VR U' v (.slice (some a) len cap)/\Rd S' (fun _=>False) (.list its) v (.l ds):=by
 intro U S hl;rcases Nat.eq_zero_or_pos cap with hc0 | hc0
 ·have:len=0:=by omega
  subst this hc0;obtain⟨b,o,sp⟩:=a;refine⟨U,S,.slice (some ⟨b,o,some ((match sp with | none=>0 | some k=>k+1)+2)⟩) 0 0,[],.refl U,hl,.refl S,.tL ?_,.OS⟩;cases sp<;>rfl
 ·rcases hsp with hsp | ⟨c,t,fz,hb,hspot⟩
  ·omega
  ·obtain⟨b,o,sp⟩:=a
   have hspot:sp=none:=hspot;subst hspot;obtain⟨h1,h2⟩:=mapM_some hel;have h1:els.length=len:=by simpa using h1
   let css:List (List Value):=(List.range len).map fun i=>(w.cells? 0 ((⟨b,o,none⟩:Addr).add (i*m)) m).getD []
   have aFZ:∀i,i<len->∃cs x,css[i]? =some cs/\w.cells? 0 ⟨b,o+i*m,none⟩ m=some cs/\els[i]? =some x/\F cs=some x:=by
    intro i hi;obtain⟨x,hx,hF⟩:=h2 i i (by simp [hi]);rw [nE]at hF;cases hcs:w.cells? 0 ⟨b,o+i*m,none⟩ m with
    | none=>rw [hcs]at hF;cases hF
    | some cs=>
     rw [hcs]at hF;refine⟨cs,x,?_,rfl,hx,hF⟩;show((List.range len).map fun i=>(w.cells? 0 ((⟨b,o,none⟩:Addr).add (i*m)) m).getD [])[i]? =some cs;rw [List.getElem?_map,List.getElem?_range hi];show some ((w.cells? 0 ((⟨b,o,none⟩:Addr).add (i*m)) m).getD [])=some cs;rw [nE,hcs];rfl
   have hcl:css.length=len:=by show((List.range len).map _).length=len;simp
   have aHe:∀cs∈css,oX P w cs its:=by
    intro cs hcs;obtain⟨i,hi⟩:=List.getElem?_of_mem hcs;have hil:i<len:=by rw [<-hcl];exact(List.getElem?_eq_some_iff.1 hi).1
    obtain⟨cs',x,g1,_,g3,g4⟩:=aFZ i hil;rw [hi]at g1;injection g1 with g1;subst g1;exact hall x (List.mem_of_getElem? g3) cs g4
   obtain⟨U1,S1,Mj,dss,e1,l1,x1,n1,n2,r1,s1⟩:=lay_all aHe U S hl
   have hvl:∀vs∈Mj,vs.length=m:=by
    intro vs hvs;obtain⟨i,hi⟩:=List.getElem?_of_mem hvs;have hil:i<dss.length:=by rw [n2,<-n1];exact(List.getElem?_eq_some_iff.1 hi).1
    rw [(s1 i vs _ hi (List.getElem?_eq_getElem hil)).len,hm]
   have hfl:=Fa hvl
   have hA:∀(j:Nat) (v:Value),Mj.flatten[j]? =some v->∃v',c[o+j]? =some v'/\VR U1 v v':=by
    intro j v hj
    have hjl:j<len*m:=by
     have:=(List.getElem?_eq_some_iff.1 hj).1;rw [hfl,n1,hcl]at this;exact this
    have hk:j / m<len:=Nat.div_lt_of_lt_mul (by rw [Nat.mul_comm];exact hjl);have hjm:j%m<m:=Nat.mod_lt _ hpos;have ej:j=(j / m)*m+j%m:=by rw [Nat.mul_comm];exact(Nat.div_add_mod j m).symm
    rw [ej,QP hvl _ _ hjm]at hj;obtain⟨cs,x,g1,g2,g3,g4⟩:=aFZ (j / m) hk;cases hvk:Mj[j / m]? with
    | none=>rw [hvk]at hj;cases hj
    | some vs=>
     rw [hvk]at hj;have hvr:=r1 _ vs cs hvk g1;obtain⟨v',hv',hr'⟩:=hvr.get hj;obtain⟨_,q2⟩:=Po g2 hb;have:=q2 _ _ hv';exact⟨v',by rw [Nat.add_assoc,<-ej]at this;exact this,hr'⟩
   have hB:∀j,j<Mj.flatten.length->¬(fz.1<=o+j/\o+j<fz.2):=by
    intro j hj;have hjl:j<len*m:=by rw [hfl,n1,hcl]at hj;exact hj
    have:=hz j hjl;unfold World.frozen? at this;rw [hb]at this;intro⟨q1,q2⟩;simp at this;have:=this q1;omega
   obtain⟨l2,e2⟩:=l1.add Mj.flatten e ⟨b,o,0,m⟩ hb hA hsz hB;have x2:=DZ.new S1 (.cells Mj.flatten e .rs);refine⟨_,_,.slice (some ⟨S1.n,0,none⟩) len cap,dss,e1.trans e2,l2,x1.trans x2,?_,?_⟩
   ·have:=VR.slice (U:=U1.put S1.n ⟨b,o,0,m⟩) (o:=0) (n:=len) (c:=cap) (Rn.iJ U1 S1.n ⟨b,o,0,m⟩)
    exact this
   ·refine .row (e:=e) (ck:= .rs) rfl (Nat.lt_succ_self _) (fun h=>h) oY (.inl rfl) (by rw [n2,hcl]) (by rw [hfl,n1,hcl,hm];omega) (fun ds hds=>?_) hN hlc (fun k ds j it v d a1 a2 a3 a4=>?_)
    ·obtain⟨i,hi⟩:=List.getElem?_of_mem hds
     have hil:i<Mj.length:=by rw [n1,<-n2];exact(List.getElem?_eq_some_iff.1 hi).1
     exact(s1 i _ ds (List.getElem?_eq_getElem hil) hi).Ah
    ·have hjm:j<m:=by rw [<-hm];exact(List.getElem?_eq_some_iff.1 a2).1
     rw [hm,Nat.zero_add,QP hvl k j hjm]at a3;cases hk:Mj[k]? with
     | none=>rw [hk]at a3;cases a3
     | some vs=>
      rw [hk]at a3;exact((s1 k vs ds hk a1).fr x2.none).rd j it v d a2 a3 a4
theorem Ai{y:Nat}:∀{fs:List Field} {xs:List (DataW H×List MemPlace)} {j:Nat} {f:Field} {x:DataW H×List MemPlace},fs[j]? =some f->xs[j]? =some x->y∈x.1.weights P f.type->y∈DataW.weightsEach P (fs.map (·.type)) (xs.map (·.1)):=by
 intro fs;induction fs with
 | nil=>intro xs j f x h;simp at h
 | cons g fs ih=>
  intro xs j f x h1 h2 h3;cases xs with
  | nil=>simp at h2
  | cons z xs=>
   rw [List.map_cons,List.map_cons,DataW.weightsEach];cases j with
   | zero=>simp at h1 h2;subst h1 h2;exact List.mem_append.2 (.inl h3)
   | succ j=>exact List.mem_append.2 (.inr (ih (by simpa using h1) (by simpa using h2) h3))
theorem lay (sp:Nat->Bool) (hsp:∀b,sp b=true):∀(F k:Nat) (t:TypeId) (cs:List Value) (d:DataW H) (ps:List MemPlace),DataW.trod enc P w 0 sp true F t cs=some (d,ps)->(∀b off,MemPlace.cell b off∈ps->w.frozen? ⟨b,off,none⟩=false)->
 (∀x∈d.weights P t,x<=reachBytes)->∀its,Iw P k t=some its->oX P w cs its:=by
 intro F;induction F with
 | zero=>intro k t cs d ps h;cases h
 | succ F ih=>
  intro k t cs d ps h hz hw its hi;cases k with
  | zero=>cases hi
  | succ k=>
   unfold Iw at hi;unfold DataW.trod at h;cases hu:P.underlying t with
   | none=>rw [hu]at hi;cases hi
   | some td=>
    rw [hu]at hi h;cases td with
    | bool=>
     injection hi with hi;subst hi
     match cs,h with
     | [.bool b],_=>exact oX.plain rfl fun S=> .is
    | int kd=>
     match cs,h with
     | [.int k' n],h=>
      simp only at h;split at h
      ·rename_i hk
       obtain⟨rfl,hwf⟩:=hk;obtain⟨r1,r2⟩:=Uf hwf;cases k' with
       | u64=>
        injection hi with hi;subst hi;have r1:(0:Int)<=n:=r1;have r2:n<=18446744073709551615:=r2;obtain⟨m,rfl⟩:=Int.eq_ofNat_of_zero_le r1;exact oX.plain rfl fun S=> .num (z:=m) (by omega)
       | u8=>
        injection hi with hi;subst hi;have r1:(0:Int)<=n:=r1;have r2:n<=255:=r2;obtain⟨m,rfl⟩:=Int.eq_ofNat_of_zero_le r1;exact oX.plain rfl fun S=> .kind (z:=m) (by omega)
       | i64=>
        injection hi with hi;subst hi;have r1:(-9223372036854775808:Int)<=n:=r1;have r2:n<=9223372036854775807:=r2;exact oX.plain rfl fun S=> .int r1 (by omega)
       | _=>cases hi
      ·cases h
    | string=>
     injection hi with hi;subst hi
     match cs,h with
     | [.string s],h=>
      simp only at h;split at h
      ·injection h with h
       injection h with h _;subst h;obtain⟨⟨l⟩⟩:=s;have:=hw l.length (by simp [DataW.weights]);exact oX.plain rfl fun S=> .text (l:=l) (by unfold reachBytes at this;omega)
      ·cases h
    | slice e=>
     simp only at hi;split at hi
     ·rename_i i0 aF0 m by0 hit hsz hby
      split at hi
      ·rename_i hm
       have hcell:P.cellsOf e=m:=by unfold Program.cellsOf;unfold bQ at hsz;rw [hsz];rfl
       have hfin:(∀(U:Rn) (S:St),Lay P w U S->∃U' S' v ds,Ext U U'/\Lay P w U' S'/\DZ S S'/\jP U' [v] cs/\Rd S' (fun _=>False) (.list (i0::aF0)) v (.l ds))->oX P w cs its:=by
        intro hgo U S hl;obtain⟨U',S',v,ds,g1,g2,g3,g4,g5⟩:=hgo U S hl;refine⟨U',S',[v],[.l ds],g1,g2,g3,g4,?_⟩;split at hi
        ·injection hi with hi;subst hi
         exact⟨rfl,rfl,fun j it v' d' a b c=>by
          cases j with
          | zero=>simp at a b c;subst a b c;exact .nums g5
          | succ j=>simp at a⟩
        ·injection hi with hi;subst hi
         exact⟨rfl,rfl,fun j it v' d' a b c=>by
          cases j with
          | zero=>simp at a b c;subst a b c;exact g5
          | succ j=>simp at a⟩
       match cs,h,hfin with
       | [.slice none 0 0],_,hfin=>exact hfin fun U S hl=>⟨U,S,_,[],.refl U,hl,.refl S,.cons (.flat rfl) (.nil U),.empty⟩
       | [.slice (some a) len cap],h,hfin=>
        simp only at h;split at h
        ·rename_i hcond
         rw [hcell]at h;cases hels:(List.range len).mapM (fun i=>(w.cells? 0 (a.add (i*m)) m).bind (DataW.trod enc P w 0 sp true F e))with
         | none=>rw [hels]at h;cases h
         | some els=>
          rw [hels]at h;simp only [Option.bind_some,hsp,if_true]at h;cases hrest:(List.range (cap-len)).mapM (fun j=>(w.cells? 0 (a.add ((len+j)*m)) m).bind (DataW.trod enc P w 0 sp true F e))with
          | none=>rw [hrest]at h;cases h
          | some rest=>
           rw [hrest]at h;injection h with h;injection h with hd hps;subst hd hps;obtain⟨n1,n2⟩:=mapM_some hels;obtain⟨n3,n4⟩:=mapM_some hrest;have n1:els.length=len:=by simpa using n1
           have n3:rest.length=cap-len:=by simpa using n3
           have hwt:(els.length+rest.length)*P.bytesOf e<=reachBytes:=hw _ (by rw [DataW.weights,hu];simp);rw [hby,n1]at hwt
           have aC0:len<=140737488355328:=by
            unfold reachBytes at hwt;have:len<=(len+rest.length)*by0.succ:=Nat.le_trans (Nat.le_add_right _ _) (Nat.le_mul_of_pos_right _ (Nat.succ_pos _));omega
           refine hfin fun U S hl=>?_
           obtain⟨U',S',v,ds,g1,g2,g3,g4,g5⟩:=Pq (F:=DataW.trod enc P w 0 sp true F e) (its:=i0::aF0) (e:=e) (by rw [hm];rfl) (by omega) hsz hcell hcond.2.1 hels aC0 (by
            rcases Nat.eq_zero_or_pos cap with h0 | h0
            ·exact .inl h0
            ·right
             rcases Nat.eq_zero_or_pos len with h1 | h1
             ·obtain⟨x,_,hx⟩:=n4 0 0 (List.getElem?_range (by omega))
              cases hcs:w.cells? 0 (a.add ((len+0)*m)) m with
              | none=>rw [hcs]at hx;cases hx
              | some c0=>
               rw [h1]at hcs;simp only [Nat.add_zero,Nat.zero_mul]at hcs;exact QQ (by simpa [Addr.add]using hcs) (by omega)
             ·obtain⟨x,_,hx⟩:=n2 0 0 (List.getElem?_range (by omega))
              cases hcs:w.cells? 0 (a.add (0*m)) m with
              | none=>rw [hcs]at hx;cases hx
              | some c0=>
               simp only [Nat.zero_mul]at hcs;exact QQ (by simpa [Addr.add]using hcs) (by omega)) (fun i hi=>by
            refine hz a.block (a.off+i) (List.mem_append.2 (.inl ?_));unfold MemPlace.row;refine List.mem_map.2 ⟨i,List.mem_range.2 ?_,rfl⟩;rw [n1];have:len*m<=(len+rest.length)*m:=Nat.mul_le_mul_right _ (Nat.le_add_right _ _);omega) (fun x hx cs' hF=>by
            obtain⟨dx,px⟩:=x;refine ih k e cs' dx px hF (fun b off hb=>hz b off (List.mem_append.2 (.inr (List.mem_flatMap.2 ⟨(dx,px),List.mem_append.2 (.inl hx),hb⟩)))) (fun y hy=>hw y ?_) _ hit;rw [DataW.weights,hu];exact List.mem_cons_of_mem _ (List.mem_append.2 (.inl (Fb (List.mem_map.2 ⟨(dx,px),hx,rfl⟩) hy)))) U S hl
           exact⟨U',S',v,ds,g1,g2,g3,.cons g4 (.nil U'),g5⟩
        ·cases h
      ·cases hi
     ·cases hi
    | struct fs=>
     simp only at hi h
     have hi:∃m,Iv P (Iw P k) fs.toList 0=some its/\bQ P t=some m/\m=its.length:=by
      split at hi
      ·rename_i aHF m' h1 h2
       split at hi
       ·rename_i h3
        injection hi with hi;subst hi;exact⟨m',h1,h2,h3⟩
       ·cases hi
      ·cases hi
     obtain⟨mm,hi,hsz,hmm⟩:=hi;have hct:P.cellsOf t=mm:=by unfold Program.cellsOf;unfold bQ at hsz;rw [hsz];rfl
     split at h
     ·rename_i hlen
      cases hxs:(fs.toList.mapM fun f=>DataW.trod enc P w 0 sp true F f.type ((cs.drop f.offset).take (P.cellsOf f.type)))with
      | none=>rw [hxs]at h;cases h
      | some xs=>
       rw [hxs]at h;injection h with h;injection h with hd hps;subst hd hps
       have:=Pp (w:=w) hi cs (fun t c=>DataW.trod enc P w 0 sp true F t c) xs hxs (by omega) (fun j f x hf hx i c hg hF=>by
        obtain⟨dx,px⟩:=x;refine ih k f.type c dx px hF (fun b off hb=>hz b off (List.mem_flatMap.2 ⟨(dx,px),List.mem_of_getElem? hx,hb⟩)) (fun y hy=>hw y ?_) i hg;rw [DataW.weights,hu];exact Ai hf hx hy)
       rwa [List.drop_zero]at this
     ·cases h
    | _=>cases hi
end
end Go.Am
