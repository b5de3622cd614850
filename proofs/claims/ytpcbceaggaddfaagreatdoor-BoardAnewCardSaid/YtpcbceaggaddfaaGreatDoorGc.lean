/- AM: the operations with their types made out: the same as they are. -/
import Derived.Test.YtpcbceaggaddfaaGreatDoorGb

noncomputable section
set_option maxRecDepth 100000
set_option linter.unusedVariables false
namespace Go.Am
open Go.RowKit Go.MapKept
section
variable{P:Program}
theorem Ci{t:TypeId}(h:uR P t=some false)(a:Value)(S:St)(K:VK):KU P t a S K=rLd a S K:=by
 unfold KU rLd;simp only [h]<;>rfl
theorem Cj{t:TypeId}{n:Nat}(h:uR P t=some true)(hn:bP P t=some n)(a:Value)(S:St)(K:VK):KU P t a S K=aG5 n a S K:=by
 unfold KU aG5;simp only [h,hn]<;>rfl
theorem Zt{t:TypeId}{n:Nat}(hn:bP P t=some n)(a x:Value)(S:St)(k:St->Bool):UZ P t a x S k=rSt n a x S k:=by
 unfold UZ rSt;simp only [hn]<;>rfl
theorem Zu{t:TypeId}{z:List Value}(hz:tX P t=some z)(hf:rD bE z=true)(S:St)(K:VK):PI P t S K=Ck z t S K:=by
 unfold PI Ck;simp only [hz,hf]
theorem YP{s:TypeId}{f:Nat}{fd:Field}{n:Nat}(hf:zO P s f=some fd)(hn:bP P fd.type=some (n+1))(x:Value)(K:Value->Bool):BO P s x f K=aG6 fd.offset x K:=by
 unfold BO aG6;simp only [hf,hn]<;>rfl
theorem Kz{t:TypeId}{f:Nat}{fd:Field}(hf:zO P t f=some fd)(h:uR P fd.type=some false)(x:Value)(K:Value->Bool):PH P t x f K=La fd.offset x K:=by
 unfold PH La;simp only [hf,Pd,h]<;>rfl
theorem Lb{t:TypeId}{f:Nat}{fd:Field}{n:Nat}(hf:zO P t f=some fd)(h:uR P fd.type=some true)(hn:bP P fd.type=some n)(x:Value)(K:Value->Bool):PH P t x f K=YQ fd.offset n x K:=by
 unfold PH YQ;simp only [hf,Pd,h,hn]<;>rfl
theorem YR{t e:TypeId}{n:Nat}(he:isSlice P t=some e)(hn:bP P e=some n)(x ix:Value)(K:Value->Bool):sK P t x ix K=aJ6 n x ix K:=by
 unfold sK aJ6;simp only [he,hn,Em he];cases ix<;>first | rfl | skip
 rename_i kk i;cases i<;>first | rfl | skip
 rename_i i;cases x<;>first | rfl | skip
 ·rename_i b;cases b<;>first | rfl | (rename_i a;obtain⟨b,o,sp⟩:=a;cases sp<;>rfl)
 ·rename_i b len cap;cases b with
  | none=>rfl
  | some a=>
   obtain⟨b,o,sp⟩:=a
   match sp with
   | none=>simp only;cases Nat.blt i len<;>rfl
   | some 0=>simp only;cases Nat.blt i len<;>rfl
   | some (_+1)=>rfl
theorem aG7{t e:TypeId}(he:isSlice P t=some e)(x:Value)(S:St)(K:VK):nY P .len [t] [x] S K=aDR x λv=>K v S:=by
 have hu:=Em he;have hm:EA P t=none:=by unfold EA;rw [hu]
 cases x<;>simp only [nY,aDR,he,hu,hm]
theorem aG8{t:TypeId}(hu:P.underlying t=some .string)(x:Value)(S:St)(K:VK):nY P .len [t] [x] S K=Zv x λv=>K v S:=by
 have hs:isSlice P t=none:=by unfold isSlice;rw [hu]
 have hm:EA P t=none:=by unfold EA;rw [hu]
 cases x<;>simp only [nY,Zv,hs,hu,hm]
theorem Cl{sT xT el:TypeId}{info:TypeInfo}{n:Nat}{z:Value}(h1:isSlice P sT=some el)(h2:Jh (P.underlying xT)=true)(h3:P.info? el=some info)(h4:info.size=n+1)(h5:info.zero=some z)(h6:Nat.beq z.cells.size (n+1)=true)
 (s x:Value) (S:St) (K:VK):pF P [sT,xT] s x S K=Zw P el (n+1) info.bytes s x S K:=by
 unfold pF Zw;simp only [h1,h2,h3,h4,h5];cases s<;>simp only [h6]<;>rfl
end
def fbk(o:Oper):OpW:=⟨λE A S K=>wW E o A S K⟩
structure PtW where
 f:aO->(List (Nat×Nat×Value)->Bool)->Bool
def HA(place:Nat->Option (Nat×Nat))(ps:List (Nat×Operand)):PtW:=
 fS (β:=PtW) ⟨λ_ k=>k []⟩ (λp _ ih=>match place p.1 with
  | some (off,size)=>⟨λA k=>(xI p.2).f A λv=>ih.f A λl=>k ((off,size,v)::l)⟩
  | none=>⟨λ_ _=>false⟩) ps
def Gt(place:Nat->Option (Nat×Nat))(p:Nat×Value):Nat×Nat×Value:=match place p.1 with | some (off,size)=>(off,size,p.2) | none=>(0,0,p.2)
theorem aCf(place:Nat->Option (Nat×Nat))(A:aO):∀(ps:List (Nat×Operand)) (k:List (Nat×Nat×Value)->Bool),(∀p∈ps,(place p.1).isSome=true)->(HA place ps).f A k=DY A ps λl=>k (l.map (Gt place)):=by
 intro ps;induction ps with
 | nil=>intro k _;rfl
 | cons p ps ih=>
  intro k h;have hp:=h p (.head _);obtain⟨⟨off,size⟩,hq⟩:=Ax.1 hp
  have e1:HA place (p::ps)=⟨λA k=>(xI p.2).f A λv=>(HA place ps).f A λl=>k ((off,size,v)::l)⟩:=by
   unfold HA;rw [aS];simp only [hq]
  rw [e1];show(xI p.2).f A _=tC A p.2 λv=>DY A ps λl=>k (((p.1,v)::l).map (Gt place));rw [kT]
  congr 1
  funext v
  have e:∀l:List (Nat×Value),((p.1,v)::l).map (Gt place)=(off,size,v)::l.map (Gt place):=λl=>by simp [Gt,hq]
  simp only [e];exact ih (λl=>k ((off,size,v)::l)) (λq hq=>h q (.tail _ hq))
theorem Tu(A:aO):∀(ps:List (Nat×Operand)) (k k':List (Nat×Value)->Bool),(∀l,l.map Prod.fst=ps.map Prod.fst->k l=k' l)->DY A ps k=DY A ps k':=by
 intro ps;induction ps with
 | nil=>intro k k' h;exact h [] rfl
 | cons p ps ih=>
  intro k k' h;show(tC A p.2 λv=>DY A ps λl=>k ((p.1,v)::l))=tC A p.2 λv=>DY A ps λl=>k' ((p.1,v)::l)
  congr 1
  funext v
  exact ih _ _ λl hl=>h _ (by simp [hl])
theorem aJ7(place:Nat->Option (Nat×Nat))(k:List Value->Bool):∀(l:List (Nat×Value)) (cs:List Value),(∀p∈l,(place p.1).isSome=true)->TS place l cs k=QP (l.map (Gt place)) cs k:=by
 intro l;induction l with
 | nil=>intro cs _;rfl
 | cons p l ih=>
  intro cs h;obtain⟨⟨off,size⟩,hq⟩:=Ax.1 (h p (.head _))
  have e1:TS place (p::l) cs k=match place p.1 with
   | some (off,size)=>oW p.2 λnew=>CU new λm=>match Nat.beq m size with
    | true=>rF off new cs λcs=>TS place l cs k
    | false=>false
   | none=>false:=rfl
  have e2:QP ((off,size,p.2)::l.map (Gt place)) cs k=oW p.2 λnew=>CU new λm=>match Nat.beq m size with
   | true=>rF off new cs λcs=>QP (l.map (Gt place)) cs k
   | false=>false:=rfl
  have e3:(p::l).map (Gt place)=(off,size,p.2)::l.map (Gt place):=by simp [Gt,hq]
  have ih':(λcs=>TS place l cs k)=λcs=>QP (l.map (Gt place)) cs k:=by funext cs;exact ih cs λq hq=>h q (.tail _ hq)
  rw [e1,e3,e2,hq,ih']
theorem Tv(place:Nat->Option (Nat×Nat))(A:aO)(ps:List (Nat×Operand))(cs:List Value)(k:List Value->Bool)(h:∀p∈ps,(place p.1).isSome=true):
 (DY A ps λl=>TS place l cs k)=(HA place ps).f A λl=>QP l cs k:=by
 rw [aCf place A ps _ h];refine Tu A ps _ _ λl hl=>aJ7 place k l cs λp hp=>?_;have:p.1∈ps.map Prod.fst:=by rw [<-hl];exact mF.2 ⟨p,hp,rfl⟩
 obtain⟨q,hq,e⟩:=mF.1 this;rw [<-e];exact h q hq
def aG9(P:Program)(c:Call):OpW:=
 match c.callee with
 | .builtin .len=>match c.argTypes.toList,c.args.toList with
  | [t],[a]=>match isSlice P t,P.underlying t with
   | some _,_=>⟨λ_ A S K=>(xI a).f A λv=>aDR v λv=>K v S⟩
   | none,some .string=>⟨λ_ A S K=>(xI a).f A λv=>Zv v λv=>K v S⟩
   | _,_=>QD P c
  | _,_=>QD P c
 | .builtin .append=>match c.argTypes.toList,c.args.toList with
  | [sT,xT],[a,b]=>match isSlice P sT,Jh (P.underlying xT)with
   | some el,true=>match P.info? el with
    | some info=>match info.size,info.zero with
     | n+1,some z=>match Nat.beq z.cells.size (n+1)with
      | true=>⟨λ_ A S K=>(xI a).f A λa=>(xI b).f A λb=>Zw P el (n+1) info.bytes a b S K⟩
      | false=>QD P c
     | _,_=>QD P c
    | none=>QD P c
   | _,_=>QD P c
  | _,_=>QD P c
 | .builtin _=>QD P c
 | .value f=>⟨λE A S K=>(aBX c.args.toList).f A λargs=>(xI f).f A λf=>aMy E.call E.round f args S K⟩
 | .invoke r m=>⟨λE A S K=>(aBX c.args.toList).f A λargs=>(xI r).f A λv=>aQm P E.call v m args S K⟩
theorem aHa(E:Env)(c:Call)(A:aO)(S:St)(K:VK):(aG9 E.P c).f E A S K=mO E A c S K:=by
 unfold aG9;split
 ·rename_i hc
  split
  ·rename_i t a ht ha
   split
   ·rename_i _ _ e hs
    unfold mO;rw [hc,ha,ht];simp only [kT,PG,aS,tD,aG7 hs]
   ·rename_i _ _ hs hu
    unfold mO;rw [hc,ha,ht];simp only [kT,PG,aS,tD,aG8 hu]
   ·exact zX E c A S K
  ·exact zX E c A S K
 ·rename_i hc
  split
  ·rename_i sT xT a b ht ha
   split
   ·rename_i el hs hx
    split
    ·rename_i info hi
     split
     ·rename_i n z hn hz
      split
      ·rename_i Bt
       unfold mO;rw [hc,ha,ht];simp only [kT,PG,aS,tD]
       congr 1;funext a;congr 1;funext b
       exact(Cl hs hx hi hn hz Bt a b S K).symm
      ·exact zX E c A S K
     ·exact zX E c A S K
    ·exact zX E c A S K
   ·exact zX E c A S K
  ·exact zX E c A S K
 ·exact zX E c A S K
 ·rename_i f hc
  unfold mO;rw [hc];simp only [YB,kT]<;>rfl
 ·rename_i r m hc
  unfold mO;rw [hc];simp only [YB,kT]<;>rfl
def opX(P:Program)(o:Oper):OpW:=
 match o.op with
 | .pick c a b=>⟨λE A S K=>(xI c).f A λc=>(xI a).f A λa=>(xI b).f A λb=>shut E.most (aLI c a b λv=>K v S)⟩
 | .alloc t=>match tX P t with
  | some z=>match rD bE z with
   | true=>⟨λ_ _ S K=>Ck z t S K⟩
   | false=>fbk o
  | none=>fbk o
 | .build t ps=>match tX P t,P.underlying t with
  | some zero,some (.struct fields)=>match placesOf P fields.toList with
   | some pl=>match rD bE zero,ps.toList.all λp=>(pl[p.1]?).isSome with
    | true,true=>⟨λ_ A S K=>(HA (pl[·]?) ps.toList).f A λl=>aCg zero l λv=>K v S⟩
    | _,_=>fbk o
   | none=>fbk o
  | some zero,some (.array _ elem)=>match bP P elem with
   | some size=>match rD bE zero with
    | true=>⟨λ_ A S K=>(HA (λi=>some (i*size,size)) ps.toList).f A λl=>aCg zero l λv=>K v S⟩
    | false=>fbk o
   | none=>fbk o
  | _,_=>fbk o
 | .buildSlice t len ps=>match isSlice P t with
  | some elem=>match bP P elem,tX P elem with
   | some (size+1),some zero=>match Nat.ble (len*(size+1)) 16777216,Nat.beq zero.length (size+1)with
    | true,true=>match rD bE zero with
     | true=>⟨λ_ A S K=>Xm zero len λcs=>(HA (λi=>some (i*(size+1),size+1)) ps.toList).f A λl=>QP l cs λcs=>uH S (.cells cs elem .exact) λi S=>K (.slice (some ⟨i,0,none⟩) len len) S⟩
     | false=>fbk o
    | _,_=>fbk o
   | _,_=>fbk o
  | none=>fbk o
 | .load t a=>match uR P t,bP P t with
  | some false,_=>⟨λ_ A S K=>(xI a).f A λa=>rLd a S K⟩
  | some true,some n=>⟨λ_ A S K=>(xI a).f A λa=>aG5 n a S K⟩
  | _,_=>fbk o
 | .store t a x=>match bP P t with
  | some n=>⟨λ_ A S K=>(xI a).f A λa=>(xI x).f A λx=>rSt n a x S λS=>K undef S⟩
  | none=>fbk o
 | .nilCheck x=>⟨λ_ A S K=>(xI x).f A λv=>aJ8 P v λv=>K v S⟩
 | .binOp op t x y _=>⟨λ_ A S K=>(xI x).f A λa=>(xI y).f A λb=>aHb P op t a b λv=>K v S⟩
 | .convert s d x=>match P.underlying s,P.underlying d with
  | some (.int _),some (.int k)=>⟨λ_ A S K=>(xI x).f A λa=>aHc k a λv=>K v S⟩
  | _,_=>Xf P o
 | .fieldAddr s x f=>match zO P s f with
  | some fd=>match bP P fd.type with
   | some (_+1)=>⟨λ_ A S K=>(xI x).f A λx=>aG6 fd.offset x λv=>K v S⟩
   | _=>Xf P o
  | none=>Xf P o
 | .field t x f=>match zO P t f with
  | some fd=>match uR P fd.type,bP P fd.type with
   | some false,_=>⟨λ_ A S K=>(xI x).f A λx=>La fd.offset x λv=>K v S⟩
   | some true,some n=>⟨λ_ A S K=>(xI x).f A λx=>YQ fd.offset n x λv=>K v S⟩
   | _,_=>Xf P o
  | none=>Xf P o
 | .indexAddr t x ix=>match isSlice P t with
  | some el=>match bP P el with
   | some n=>⟨λ_ A S K=>(xI x).f A λx=>(xI ix).f A λix=>aJ6 n x ix λv=>K v S⟩
   | none=>Xf P o
  | none=>Xf P o
 | .index t x ix=>match P.underlying t with
  | some .string=>⟨λ_ A S K=>(xI x).f A λx=>(xI ix).f A λix=>Tw x ix λv=>K v S⟩
  | _=>Xf P o
 | .extract t i=>⟨λ_ A S K=>(xI t).f A λv=>aHd i v λv=>K v S⟩
 | .typeAssert x _ as ok=>⟨λ_ A S K=>(xI x).f A λv=>aDS P as ok v λv=>K v S⟩
 | .call c=>aG9 P c
 | _=>Xf P o
theorem aDT{P:Program}{s d:TypeId}{j k:IntKind}(hs:P.underlying s=some (.int j))(hd:P.underlying d=some (.int k))(x:Value)(S:St)(K:VK):Ea P s d x S K=aHc k x λv=>K v S:=by
 cases x<;>simp only [Ea,aHc,hs,hd];rename_i b n c;cases b with
 | none=>rfl
 | some a=>obtain⟨b,o,sp⟩:=a;match sp with
  | none=>rfl
  | some 0=>rfl
  | some (_+1)=>rfl
theorem Zx{P:Program}{t:TypeId}(h:P.underlying t=some .string)(x ix:Value)(K:Value->Bool):Bo P t x ix K=Tw x ix K:=by
 unfold Bo Tw;simp only [h];cases ix<;>first | rfl | skip
 rename_i kk i;cases i<;>first | rfl | skip
 cases x<;>rfl
theorem QQ(E:Env)(o:Oper)(A:aO)(S:St)(K:VK):(opX E.P o).f E A S K=wW E o A S K:=by
 unfold opX;split
 ·rename_i c a b h;unfold wW;rw [h];simp only [kT,Hu,aLI]<;>rfl
 ·rename_i t h
  split
  ·rename_i z hz
   split
   ·rename_i hf;unfold wW;rw [h];exact(Zu hz hf S K).symm
   ·rfl
  ·rfl
 ·rename_i t ps h
  split
  ·rename_i zero fields hz hu
   split
   ·rename_i pl hp
    split
    ·rename_i hf ha
     unfold wW;rw [h];simp only [Jg,hz,hu,hp,hf];refine(Tv (pl[·]?) A ps.toList zero (λcs=>K (.agg ⟨cs⟩) S) ?_).symm;intro p hp';exact dJ.1 ha p hp'
    ·rfl
   ·rfl
  ·rename_i zero n elem hz hu
   split
   ·rename_i size hs
    split
    ·rename_i hf
     unfold wW;rw [h];simp only [Jg,hz,hu,hs,hf];exact(Tv (λi=>some (i*size,size)) A ps.toList zero (λcs=>K (.agg ⟨cs⟩) S) (λp _=>rfl)).symm
    ·rfl
   ·rfl
  ·rfl
 ·rename_i t len ps h
  split
  ·rename_i elem hs
   split
   ·rename_i size zero hz Ph
    split
    ·rename_i h1 h2
     split
     ·rename_i hf
      unfold wW;rw [h];simp only [yJ,hs,hz,Ph,h1,h2,hf]
      congr 1;funext cs
      exact(Tv (λi=>some (i*(size+1),size+1)) A ps.toList cs _ (λp _=>rfl)).symm
     ·rfl
    ·rfl
   ·rfl
  ·rfl
 ·rename_i t a h
  split
  ·rename_i h1;unfold wW;rw [h];simp only [kT,Ci h1]
  ·rename_i n h1 h2;unfold wW;rw [h];simp only [kT,Cj h1 h2]
  ·rfl
 ·rename_i t a x h
  split
  ·rename_i n h1;unfold wW;rw [h];simp only [kT,Zt h1]
  ·rfl
 ·rename_i x h;unfold wW;rw [h];simp only [kT,aJ8]<;>rfl
 ·rename_i op t x y yt h;unfold wW;rw [h];simp only [kT,MY]
 ·rename_i s d x h
  split
  ·rename_i j k h1 h2;unfold wW;rw [h];simp only [kT,aDT h1 h2]
  ·exact BW E o A S K
 ·rename_i s x f h
  split
  ·rename_i fd h1
   split
   ·rename_i n h2;unfold wW;rw [h];simp only [kT,YP h1 h2]
   ·exact BW E o A S K
  ·exact BW E o A S K
 ·rename_i t x f h
  split
  ·rename_i fd h1
   split
   ·rename_i h2;unfold wW;rw [h];simp only [kT,Kz h1 h2]
   ·rename_i n h2 h3;unfold wW;rw [h];simp only [kT,Lb h1 h2 h3]
   ·exact BW E o A S K
  ·exact BW E o A S K
 ·rename_i t x ix h
  split
  ·rename_i el h1
   split
   ·rename_i n h2;unfold wW;rw [h];simp only [kT,YR h1 h2]
   ·exact BW E o A S K
  ·exact BW E o A S K
 ·rename_i t x ix h
  split
  ·rename_i h1;unfold wW;rw [h];simp only [kT,Zx h1]
  ·exact BW E o A S K
 ·rename_i t i h;unfold wW;rw [h];simp only [kT,aHd]<;>rfl
 ·rename_i x xt as ok h;unfold wW;rw [h];simp only [kT,aDS]<;>rfl
 ·rename_i c h;unfold wW;rw [h];exact aHa E c A S K
 ·exact BW E o A S K
def aHe(v:Value)(T:Tm)(i:Nat)(k:Tm->Bool):Bool:=match T with
 | ⟨t,n⟩=>match Nat.blt i n with
  | true=>SY v (Nat.succ i) t i λt=>k ⟨t,n⟩
  | false=>false
theorem aHf(v:Value)(T:Tm)(i:Nat)(k:Tm->Bool):aHe v T i k=sB v T i k:=by cases T;rfl
def aMz(A:aO)(d:Tmp)(v:Value)(k:aO->Bool):Bool:=match A with
 | ⟨T,m,g⟩=>aHe v T d λT=>k ⟨T,m,g⟩
theorem aDU(A:aO)(d:Tmp)(v:Value)(k:aO->Bool):aMz A d v k=sB v A.tmps d λts=>k ⟨ts,A.marks,A.g⟩:=by
 obtain⟨T,m,g⟩:=A;show aHe v T d (λT=>k ⟨T,m,g⟩)=_;rw [aHf]
def aHg(P:Program)(o:Oper):Kd:=
 match o.dst with
 | some d=>⟨λE A S k=>(opX P o).f E A S λv S=>aMz A d v λA=>k A S⟩
 | none=>⟨λE A S k=>(opX P o).f E A S λ_ S=>k A S⟩
def doX(P:Program)(ops:Array Oper)(o:Oper):Kd:=
 match o.guard with
 | none=>aHg P o
 | some (j,w)=>match ops[j]? with
  | some o'=>match o'.dst with
   | some g=>match o.dst with
    | some d=>⟨λE A S k=>SC A.tmps g λb=>shut E.most (Tx w b (λk=>(opX P o).f E A S k) S λv S=>aMz A d v λA=>k A S)⟩
    | none=>⟨λE A S k=>SC A.tmps g λb=>shut E.most (Tx w b (λk=>(opX P o).f E A S k) S λ_ S=>k A S)⟩
   | none=>⟨λE A S k=>VD E ops o A S k⟩
  | none=>⟨λE A S k=>VD E ops o A S k⟩
theorem aHh(E:Env)(o:Oper)(A:aO)(S:St)(k:KS):(aHg E.P o).f E A S k=wW E o A S λv S=>mA A o.dst v λA=>k A S:=by
 unfold aHg mA;cases o.dst<;>simp only [QQ,aDU]
theorem Lc(E:Env)(ops:Array Oper)(o:Oper)(A:aO)(S:St)(k:KS):(doX E.P ops o).f E A S k=VD E ops o A S k:=by
 unfold doX;cases hg:o.guard with
 | none=>
  simp only [aHh];unfold VD zP;rw [hg];rfl
 | some jw=>
  obtain⟨j,w⟩:=jw;simp only;cases ho:ops[j]? with
  | none=>rfl
  | some o'=>
   simp only;cases hd':o'.dst with
   | none=>rfl
   | some g=>
    simp only;cases hd:o.dst with
    | none=>
     unfold VD zP mA;simp only [hg,ho,hd',hd,QQ,Hu,Tx,Ff]<;>rfl
    | some d=>
     unfold VD zP mA;simp only [hg,ho,hd',hd,QQ,aDU,Hu,Tx,Ff]<;>rfl
def aMA(P:Program)(ops:Array Oper)(l:List Oper):Kd:=
 fS (β:=Kd) ⟨λ_ A S k=>k A S⟩ (λo _ ih=>⟨λE A S k=>(doX P ops o).f E A S λA S=>ih.f E A S k⟩) l
theorem aJ9(E:Env)(ops:Array Oper):∀(l:List Oper) (A:aO) (S:St) (k:KS),(aMA E.P ops l).f E A S k=TA E ops l A S k:=by
 intro l;induction l with
 | nil=>intro A S k;rfl
 | cons o l ih=>
  intro A S k;show(doX E.P ops o).f E A S (λA S=>(aMA E.P ops l).f E A S k)=VD E ops o A S λA S=>TA E ops l A S k;rw [Lc]
  congr 1
  funext A S
  exact ih A S k
def aFc(o:Oper)(d:Tmp)(ops:Array Oper)(ih:ChW):ChW:=⟨λE A S k=>SC A.tmps d λu=>zP ops o A λb=>dL b (wW E o A S λv _=>match OB v u with | true=>ih.f E A S k | false=>false) (match u with | .tuple ⟨[]⟩=>ih.f E A S k | _=>false)⟩
def Ld(P:Program)(ops:Array Oper)(l:List Nat):ChW:=
 fS (β:=ChW) ⟨λ_ _ _ k=>k⟩ (λi _ ih=>match ops[i]? with
  | some o=>match o.dst with
   | some d=>match o.guard with
    | none=>⟨λE A S k=>SC A.tmps d λu=>(opX P o).f E A S λv _=>Pz v u (ih.f E A S k)⟩
    | some (j,w)=>match ops[j]? with
     | some o'=>match o'.dst with
      | some g=>⟨λE A S k=>SC A.tmps d λu=>SC A.tmps g λb=>shut E.most (Ty w b u (λk=>(opX P o).f E A S λv _=>Pz v u k) (ih.f E A S k))⟩
      | none=>aFc o d ops ih
     | none=>aFc o d ops ih
   | none=>⟨λ_ _ _ _=>false⟩
  | none=>⟨λ_ _ _ _=>false⟩) l
theorem aFd(P:Program)(ops:Array Oper)(i:Nat)(l:List Nat):Ld P ops (i::l)=match ops[i]? with
 | some o=>match o.dst with
  | some d=>match o.guard with
   | none=>⟨λE A S k=>SC A.tmps d λu=>(opX P o).f E A S λv _=>Pz v u ((Ld P ops l).f E A S k)⟩
   | some (j,w)=>match ops[j]? with
    | some o'=>match o'.dst with
     | some g=>⟨λE A S k=>SC A.tmps d λu=>SC A.tmps g λb=>shut E.most (Ty w b u (λk=>(opX P o).f E A S λv _=>Pz v u k) ((Ld P ops l).f E A S k))⟩
     | none=>aFc o d ops (Ld P ops l)
    | none=>aFc o d ops (Ld P ops l)
  | none=>⟨λ_ _ _ _=>false⟩
 | none=>⟨λ_ _ _ _=>false⟩:=rfl
theorem Tz(E:Env)(ops:Array Oper)(A:aO)(S:St)(k:Bool):∀(l:List Nat),(Ld E.P ops l).f E A S k=wL E ops A S l k:=by
 intro l;induction l with
 | nil=>rfl
 | cons i l ih=>
  rw [aFd,Ca];cases hi:ops[i]? with
  | none=>rfl
  | some o=>
   simp only;cases hd:o.dst with
   | none=>rfl
   | some d=>
    simp only;cases hg:o.guard with
    | none=>
     simp only [QQ,ih,zP,hg,Pz];rfl
    | some jw=>
     obtain⟨j,w⟩:=jw;simp only;cases hj:ops[j]? with
     | none=>simp only [aFc,ih]<;>rfl
     | some o'=>
      simp only;cases hd':o'.dst with
      | none=>simp only [aFc,ih]<;>rfl
      | some g=>simp only [QQ,ih,zP,hg,hj,hd',Hu,Ty,Ff,Pz,aOF]<;>rfl
def aKa(P:Program)(ops:Array Oper)(i:Nat)(o:Oper):OpW:=match eZ P ops i with
 | none=>opX P o
 | some _=>⟨λE A S K=>EC E ops i o A S K⟩
theorem aDV(E:Env)(ops:Array Oper)(i:Nat)(o:Oper)(A:aO)(S:St)(K:VK):(aKa E.P ops i o).f E A S K=EC E ops i o A S K:=by
 unfold aKa;cases h:eZ E.P ops i with
 | none=>simp only [QQ];unfold EC;rw [h]
 | some j=>rfl
def Qa(P:Program)(ops:Array Oper)(l:List Nat):Kd:=
 fS (β:=Kd) ⟨λ_ A S k=>k A S⟩ (λi _ ih=>match ops[i]? with
  | some o=>⟨λE A S k=>(aKa P ops i o).f E A S λv S=>aMk o.dst v A λA=>ih.f E A S k⟩
  | none=>⟨λ_ _ _ _=>false⟩) l
theorem YS(E:Env)(ops:Array Oper):∀(l:List Nat) (A:aO) (S:St) (k:KS),(Qa E.P ops l).f E A S k=nI E ops l A S k:=by
 intro l;induction l with
 | nil=>intro A S k;rfl
 | cons i l ih=>
  intro A S k;unfold Qa nI at ih ⊢;rw [aS,aS];cases ops[i]? with
  | none=>rfl
  | some o=>
   simp only [aDV,aDP]
   congr 1
   funext v S
   congr 1
   funext A
   exact ih A S k
def aHi(P:Program)(ops:Array Oper)(l:List (Nat×List Nat)):ChW:=
 fS (β:=ChW) ⟨λ_ _ _ k=>k⟩ (λp _ ih=>match ops[p.1]? with
  | some o=>⟨λE A S k=>aB1 A o (dL ((Qa P ops p.2).f E A S λA S=>(aKa P ops p.1 o).f E A S λ_ _=>true) (ih.f E A S k) false)⟩
  | none=>⟨λ_ _ _ _=>false⟩) l
theorem Ua(E:Env)(ops:Array Oper)(A:aO)(S:St)(k:Bool):∀(l:List (Nat×List Nat)),(aHi E.P ops l).f E A S k=OR E ops A S l k:=by
 intro l;induction l with
 | nil=>rfl
 | cons p l ih=>
  unfold aHi OR at ih ⊢;rw [aS,aS];cases ops[p.1]? with
  | none=>rfl
  | some o=>simp only [YS,aDV,ih]
def YT(P:Program)(ops:Array Oper)(l:List wD):Kd:=
 fS (β:=Kd) ⟨λ_ _ _ _=>false⟩ (λs _ ih=>match s with
  | .take i=>match ops[i]? with
   | some o=>⟨λE A S k=>(doX P ops o).f E A S λA S=>ih.f E A S k⟩
   | none=>⟨λ_ _ _ _=>false⟩
  | .Ps yC mP D r BX=>match ops[r]? with
   | some o=>⟨λE A S k=>(Ld P ops yC).f E A S ((aHi P ops mP).f E A S ((Qa P ops D).f E A S λA S=>(doX P ops o).f E A S λA S=>(Ld P ops BX).f E A S (ih.f E A S k)))⟩
   | none=>⟨λ_ _ _ _=>false⟩
  | .fin yC mP D=>⟨λE A S k=>(Ld P ops yC).f E A S ((aHi P ops mP).f E A S ((Qa P ops D).f E A S k))⟩) l
theorem VU(E:Env)(ops:Array Oper):∀(l:List wD) (A:aO) (S:St) (k:KS),(YT E.P ops l).f E A S k=lW E ops l A S k:=by
 intro l;induction l with
 | nil=>intro A S k;rfl
 | cons s l ih=>
  intro A S k;unfold YT lW at ih ⊢;rw [aS,aS];cases s with
  | take i=>
   simp only;cases ops[i]? with
   | none=>rfl
   | some o=>simp only [Lc,ih]
  | Ps yC mP D r BX=>
   simp only;cases ops[r]? with
   | none=>rfl
   | some o=>simp only [Lc,Tz,Ua,YS,ih]
  | fin yC mP D=>simp only [Tz,Ua,YS]
def YU(P:Program)(ops:Array Oper)(l:List wD):Kd:=
 fS (β:=Kd) ⟨λ_ A S k=>k A S⟩ (λs _ ih=>match s with
  | .take i=>match ops[i]? with
   | some o=>⟨λE A S k=>(doX P ops o).f E A S λA S=>ih.f E A S k⟩
   | none=>⟨λ_ _ _ _=>false⟩
  | .Ps yC mP D r BX=>match ops[r]? with
   | some o=>⟨λE A S k=>(Ld P ops yC).f E A S ((aHi P ops mP).f E A S ((Qa P ops D).f E A S λA S=>(doX P ops o).f E A S λA S=>(Ld P ops BX).f E A S (ih.f E A S k)))⟩
   | none=>⟨λ_ _ _ _=>false⟩
  | .fin _ _ _=>⟨λ_ _ _ _=>false⟩) l
theorem Zy(E:Env)(ops:Array Oper):∀(l:List wD) (A:aO) (S:St) (k:KS),(YU E.P ops l).f E A S k=vR E ops l A S k:=by
 intro l;induction l with
 | nil=>intro A S k;rfl
 | cons s l ih=>
  intro A S k;unfold YU vR at ih ⊢;rw [aS,aS];cases s with
  | take i=>
   simp only;cases ops[i]? with
   | none=>rfl
   | some o=>simp only [Lc,ih]
  | Ps yC mP D r BX=>
   simp only;cases ops[r]? with
   | none=>rfl
   | some o=>simp only [Lc,Tz,Ua,YS,ih]
  | fin yC mP D=>rfl
def aCh(P:Program)(p:QN):Array Oper->Kd:=
 QN.rec (motive:=λ_=>Array Oper->Kd) (λl ops=>YT P ops l) (λl g t b _ ih ops=>⟨λE A S k=>(YU P ops l).f E A S λA S=>YO A t b ((ih (eW ops g b)).f E A S k)⟩) p
theorem aFe(E:Env):∀(p:QN) (ops:Array Oper) (A:aO) (S:St) (k:KS),(aCh E.P p ops).f E A S k=QO E p ops A S k:=by
 intro p;induction p with
 | fin l=>intro ops A S k;exact VU E ops l A S k
 | cut l g t b r ih=>
  intro ops A S k;show(YU E.P ops l).f E A S (λA S=>YO A t b ((aCh E.P r (eW ops g b)).f E A S k))=vR E ops l A S λA S=>YO A t b (QO E r (eW ops g b) A S k);rw [Zy]
  congr 1
  funext A S
  rw [ih]
def aFf(P:Program)(ops:Array Oper)(draw:Bool):Kd:=
 match draw with
 | true=>match YJ P ops with
  | some l=>match LG l with
   | []=>YT P ops l
   | ls=>⟨λE A S k=>QF ops ls A λA=>(YT P ops l).f E A S k⟩
  | none=>match GV ops with
   | true=>match YN P (ops.size+1) ops ⟨List.replicate ops.size false⟩ []with
    | some p=>⟨λE A S k=>QF ops (Tt p) A λA=>(aCh P p ops).f E A S k⟩
    | none=>⟨λ_ _ _ _=>false⟩
   | false=>⟨λ_ _ _ _=>false⟩
 | false=>aMA P ops ops.toList
theorem aDW(E:Env)(ops:Array Oper)(draw:Bool)(A:aO)(S:St)(k:KS):(aFf E.P ops draw).f E A S k=dL draw (drG E ops A S k) (TA E ops ops.toList A S k):=by
 cases draw with
 | true=>
  unfold aFf drG dL;simp only;cases YJ E.P ops with
  | none=>
   simp only;cases GV ops with
   | false=>rfl
   | true=>
    simp only;cases YN E.P (ops.size+1) ops ⟨List.replicate ops.size false⟩ []with
    | none=>rfl
    | some p=>simp only [aFe]
  | some l=>
   simp only;cases h:LG l with
   | nil=>exact VU E ops l A S k
   | cons d ls=>simp only [VU]
 | false=>exact aJ9 E ops _ A S k
structure pR where
 loop:Nat->List Nat×List Nat×List Nat
 join:Nat->Option (List Nat)
def qF:Code->Option Nat
 | .region i _ _=>some i
 | .seq a b=>match qF a with | some i=>some i | none=>qF b
 | .cond _ a b=>match qF a with | some i=>some i | none=>qF b
 | .block _ a=>qF a
 | .loop a=>qF a
 | .scope a=>qF a
 | .rangeFunc _ _ a b=>match qF a with | some i=>some i | none=>qF b
 | _=>none
def tQ(tb:pR)(a:Code):List Nat:=match qF a with | some i=>(tb.loop i).1 | none=>[]
def YV(tb:pR)(a:Code)(e:wB):List Nat:=match qF a with
 | some i=>match e with | .ret=>(tb.loop i).2.2 | _=>(tb.loop i).2.1
 | none=>[]
def nQ(tb:pR)(b:Code):Option (List Nat):=match qF b with | some i=>tb.join i | none=>none
def AC(l:List Nat)(A:aO)(k:List Value->Bool):Bool:=
 fS (β:=(List Value->Bool)->Bool) (λk=>k []) (λi _ ih k=>SC A.tmps i λv=>ih λvs=>k (v::vs)) l k
def HB(l:List Nat)(vs:List Value)(nt g:Nat)(marks:List Nat)(k:aO->Bool):Bool:=
 fS (β:=List Value->Tm->Bool) (λ_ T=>k ⟨T,marks,g⟩) (λi _ ih vs T=>match vs with | v::vs=>sB v T i λT=>ih vs T | []=>false) l vs ⟨.leaf,nt⟩
abbrev LpT:=Env->Option Nat->List Value->Nat->List Nat->St->(wB->List Value->Nat->List Nat->St->Bool)->Bool
section
variable(P:Program)(tb:pR)
def Uf(a:Code)(ih:List Value->Nat->List Nat->St->Bool)(K:wB->List Value->Nat->List Nat->St->Bool):VF:=λe A S=>match e with
 | .normal=>AC (tQ tb a) A λvs=>ih vs A.tmps.n A.marks S
 | e=>AC (YV tb a e) A λvs=>K e vs A.tmps.n A.marks S
def YW(a:Code)(body:CdW)(E:Env)(r:Option Nat)(K:wB->List Value->Nat->List Nat->St->Bool):Nat->List Value->Nat->List Nat->St->Bool:=
 ML (β:=List Value->Nat->List Nat->St->Bool) (λ_ _ _ _=>false) (λ_ ih vs n marks S=>HB (tQ tb a) vs n P.globals.size marks λA=>body.f E r A S (Uf tb a ih K))
def aKd(a:Code)(body:CdW):LpT:=λE r vs n marks S K=>YW P tb a body E r K E.most vs n marks S
def aME(a:Code)(K:VF):wB->List Value->Nat->List Nat->St->Bool:=λe vs n marks S=>HB (YV tb a e) vs n P.globals.size marks λA=>K e A S
def aOG(a:Code)(lp:LpT):CdW:=⟨λE r A S K=>AC (tQ tb a) A λvs=>lp E r vs A.tmps.n A.marks S (aME P tb a K)⟩
def aDX(l:List Nat)(b:CdW)(E:Env)(r:Option Nat)(K:VF)(vs:List Value)(n:Nat)(marks:List Nat)(S:St):Bool:=oU E.most false λ_=>HB l vs n P.globals.size marks λA=>b.f E r A S K
def aAb(j:Option (List Nat))(b:CdW)(E:Env)(r:Option Nat)(K:VF):VF:=λe A S=>match e with
 | .normal=>match j with
  | none=>b.f E r A S K
  | some l=>AC l A λvs=>aDX P l b E r K vs A.tmps.n A.marks S
 | e=>K e A S
def aCk(id:Nat)(K:VF):VF:=λe A S=>match e with
 | .exit i=>match Nat.beq i id with | true=>K .normal A S | false=>K (.exit i) A S
 | e=>K e A S
def oY(lp:Code->LpT):Code->CdW
 | .skip=>⟨λ_ _ A S K=>K .normal A S⟩
 | .region _ ops draw=>⟨λE _ A S K=>(aFf P ops draw).f E A S λA S=>K .normal A S⟩
 | .seq a b=>⟨λE r A S K=>(oY lp a).f E r A S (aAb P (nQ tb b) (oY lp b) E r K)⟩
 | .cond c a b=>⟨λE r A S K=>(xI c).f A λv=>match v with | .bool v=>dL v ((oY lp a).f E r A S K) ((oY lp b).f E r A S K) | _=>false⟩
 | .block id a=>⟨λE r A S K=>(oY lp a).f E r A S (aCk id K)⟩
 | .loop a=>aOG P tb a (lp a)
 | .scope a=>oY lp a
 | .rangeFunc f ps as bo=>⟨λE r A S K=>VG E r f ps as bo A S K⟩
 | .exit id=>⟨λ_ _ A S K=>K (.exit id) A S⟩
 | .label _=>⟨λ_ _ A S K=>K .normal A S⟩
 | .ret=>⟨λ_ _ A S K=>K .ret A S⟩
 | _=>⟨λ_ _ _ _ _=>false⟩
def lpX:Nat->Code->LpT
 | 0=>λ_ _ _ _ _ _ _ _=>false
 | n+1=>λa=>aKd P tb a (oY P tb (lpX n) a)
end
end Go.Am
namespace Go.Am
open Go.RowKit Go.MapKept
section
variable{P:Program}{w0:World}{U:Rn}{S:St}{w:World}
theorem aCl{A:aO}:∀{l:List Nat} {k:List Value->Bool},AC l A k=true->∃vs,k vs=true/\vs.length=l.length/\∀(j i:Nat) (v:Value),l[j]? =some i->vs[j]? =some v->A.tmps.t.get i=some v:=by
 intro l;induction l with
 | nil=>intro k hk;exact⟨[],hk,rfl,λj i v h=>by simp at h⟩
 | cons x l ih=>
  intro k hk;obtain⟨v,hv,hk⟩:=CZ (show SC A.tmps x (λv=>AC l A λvs=>k (v::vs))=true from hk);obtain⟨vs,h1,h2,h3⟩:=ih hk;refine⟨v::vs,h1,by simp [h2],λj i u hi hu=>?_⟩;cases j with
  | zero=>simp at hi hu;subst hi hu;exact hv
  | succ j=>simp at hi hu;exact h3 j i u hi hu
def aDY(U:Rn)(l:List Nat)(vs:List Value)(a:Act):Prop:=vs.length=l.length/\∀(j i:Nat) (v:Value),l[j]? =some i->vs[j]? =some v->∃v',a.tmps.toList[i]? =some v'/\VR U v v'
theorem aAc{A:aO}{a:Act}(hA:xX P U A a){l:List Nat}{k:List Value->Bool}(hk:AC l A k=true):∃vs,k vs=true/\aDY U l vs a:=by
 obtain⟨vs,h1,h2,h3⟩:=aCl hk;exact⟨vs,h1,h2,λj i v hi hv=>hA.tmps.get (h3 j i v hi hv)⟩
theorem Ug{a:Act}{marks:List Nat}{k:aO->Bool}{nt:Nat}:∀{l:List Nat} {vs:List Value} {T:Tm},
 (fS (β:=List Value->Tm->Bool) (λ_ T=>k ⟨T,marks,P.globals.size⟩) (λi _ ih vs T=>match vs with | v::vs=>sB v T i λT=>ih vs T | []=>false) l vs T)=true->
 aDY U l vs a->T.n=nt->(∀i v,T.t.get i=some v->∃v',a.tmps.toList[i]? =some v'/\VR U v v')->∃T',k ⟨T',marks,P.globals.size⟩=true/\T'.n=nt/\∀i v,T'.t.get i=some v->∃v',a.tmps.toList[i]? =some v'/\VR U v v':=by
 intro l;induction l with
 | nil=>intro vs T hk _ hn hT;exact⟨T,hk,hn,hT⟩
 | cons x l ih=>
  intro vs T hk hv hn hT;rw [aS]at hk;cases vs with
  | nil=>have:=hv.1;simp at this
  | cons v vs=>
   obtain⟨hx,hk⟩:=BT hk;refine ih hk ⟨by have:=hv.1;simpa using this,λj i u hi hu=>hv.2 (j+1) i u (by simpa using hi) (by simpa using hu)⟩ hn λi u hu=>?_;have hu:(T.t.put x v).get i=some u:=hu;rw [xH]at hu;split at hu
   ·rename_i e
    injection hu with hu;subst hu e;exact hv.2 0 i v rfl rfl
   ·exact hT i u hu
theorem aAd{a:Act}{marks:List Nat}{k:aO->Bool}{nt:Nat}{l:List Nat}{vs:List Value}(hk:HB l vs nt P.globals.size marks k=true)(hv:aDY U l vs a)(hn:nt=a.tmps.size)(hm:Sv U marks a.defers)(hr:Rel P w0 U S w):
 ∃A,k A=true/\SR P w0 U A a S w/\A.marks=marks:=by
 obtain⟨T',h1,h2,h3⟩:=Ug hk hv rfl (λi v h=>by cases h);exact⟨_,h1,⟨⟨⟨by rw [h2,hn];simp,h3⟩,rfl⟩,hr,hm⟩,rfl⟩
end
end Go.Am
namespace Go.Am
open Go.RowKit Go.MapKept
section
variable{E:Env}{w0:World}
structure AtX(P:Program)(w0:World)(U:Rn)(l:List Nat)(vs:List Value)(n:Nat)(marks:List Nat)(a:Act)(S:St)(w:World):Prop where
 aQn:aDY U l vs a
 size:n=a.tmps.size
 marks:Sv U marks a.defers
 rel:Rel P w0 U S w
def aQo(P:Program)(w0:World)(tb:pR)(b:Code)(U:Rn)(w:World)(K:wB->List Value->Nat->List Nat->St->Bool)(e:Exit)(a':Act)(w':World):Prop:=
 ∃U' ae vs n marks S',e=exR ae/\K ae vs n marks S'=true/\AtX P w0 U' (YV tb b ae) vs n marks a' S' w'/\uI U w U' w'
def aOH(E:Env)(w0:World)(tb:pR)(lp:Code->LpT):Prop:=∀(b:Code) {U:Rn} {vs:List Value} {n:Nat} {marks:List Nat} {a:Act} {S:St} {w:World} {K:wB->List Value->Nat->List Nat->St->Bool} {r ro:Option Nat} {Q:Exit->Act->World->Prop},
 lp b E r vs n marks S K=true->AtX E.P w0 U (tQ tb b) vs n marks a S w->RoR U r ro->(∀e a' w',aQo E.P w0 tb b U w K e a' w'->Q e a' w')->(Code.loop b).wpIn (NZ ro) 0 E.P Q a w
theorem AtX.canon{P:Program}{U:Rn}{l:List Nat}{vs:List Value}{n:Nat}{marks:List Nat}{a:Act}{S:St}{w:World}{k:aO->Bool}(h:AtX P w0 U l vs n marks a S w)(hk:HB l vs n P.globals.size marks k=true):∃A,k A=true/\SR P w0 U A a S w:=by
 obtain⟨A,h1,h2,_⟩:=aAd hk h.aQn h.size h.marks h.rel;exact⟨A,h1,h2⟩
theorem SR.at{P:Program}{U:Rn}{A:aO}{a:Act}{S:St}{w:World}{l:List Nat}{k:List Value->Bool}(h:SR P w0 U A a S w)(hk:AC l A k=true):∃vs,k vs=true/\AtX P w0 U l vs A.tmps.n A.marks a S w:=by
 obtain⟨vs,h1,h2⟩:=aAc h.act hk;exact⟨vs,h1,h2,by rw [h.act.tmps.1];simp,h.marks,h.rel⟩
theorem YX(hc:iU E.P w0 E.call)(hr:nH E.P w0 E.round)(hm:E.P.follows .mixedOrders=true){tb:pR}{lp:Code->LpT}(hlp:aOH E w0 tb lp):∀(c:Code) {U:Rn} {A:aO} {a:Act} {S:St} {w:World} {K:VF} {r ro:Option Nat} {Q:Exit->Act->World->Prop},
 (oY E.P tb lp c).f E r A S K=true->SR E.P w0 U A a S w->RoR U r ro->(∀e a' w',Arr E.P w0 U w K e a' w'->Q e a' w')->c.wpIn (NZ ro) 0 E.P Q a w:=by
 intro c;induction c with
 | skip=>intro U A a S w K r ro Q hk hs qR hQ;exact wpIn_skip (hQ _ _ _ ⟨U,.normal,A,S,rfl,hk,hs,.refl U w⟩)
 | label l=>intro U A a S w K r ro Q hk hs qR hQ;exact wpIn_label (hQ _ _ _ ⟨U,.normal,A,S,rfl,hk,hs,.refl U w⟩)
 | ret=>intro U A a S w K r ro Q hk hs qR hQ;exact wpIn_ret (hQ _ _ _ ⟨U,.ret,A,S,rfl,hk,hs,.refl U w⟩)
 | exit id=>intro U A a S w K r ro Q hk hs qR hQ;exact wpIn_exit (hQ _ _ _ ⟨U,.exit id,A,S,rfl,hk,hs,.refl U w⟩)
 | goto l=>intro U A a S w K r ro Q hk hs qR hQ;cases hk
 | refuse l=>intro U A a S w K r ro Q hk hs qR hQ;cases hk
 | region id ops draw=>
  intro U A a S w K r ro Q hk hs qR hQ;have hk:(aFf E.P ops draw).f E A S (λA S=>K .normal A S)=true:=hk;rw [aDW]at hk;exact XX hc hr (aMx hc hr hm) (.region id ops draw) hk hs qR hQ
 | seq x y ihx ihy=>
  intro U A a S w K r ro Q hk hs qR hQ;have hk:(oY E.P tb lp x).f E r A S (aAb E.P (nQ tb y) (oY E.P tb lp y) E r K)=true:=hk;refine wpIn_seq (ihx hk hs qR ?_)
  rintro e a' w' ⟨U',ae,A',S',rfl,h1,h2,h3⟩
  cases ae with
  | normal=>
   unfold aAb at h1;cases hj:nQ tb y with
   | none=>
    rw [hj]at h1;exact ihy h1 h2 (qR.mono h3.ext) λe a w h=>hQ e a w (h.trans h3)
   | some l=>
    rw [hj]at h1;have h1:AC l A' (λvs=>aDX E.P l (oY E.P tb lp y) E r K vs A'.tmps.n A'.marks S')=true:=h1;obtain⟨vs,g1,g2⟩:=h2.at h1
    have g1:HB l vs A'.tmps.n E.P.globals.size A'.marks (λA=>(oY E.P tb lp y).f E r A S' K)=true:=by
     unfold aDX at g1;cases hm:E.most with
     | zero=>rw [hm]at g1;cases g1
     | succ m=>rw [hm]at g1;exact g1
    obtain⟨A2,g3,g4⟩:=g2.canon g1;exact ihy g3 g4 (qR.mono h3.ext) λe a w h=>hQ e a w (h.trans h3)
  | exit id=>exact hQ _ _ _ ⟨U',.exit id,A',S',rfl,h1,h2,h3⟩
  | ret=>exact hQ _ _ _ ⟨U',.ret,A',S',rfl,h1,h2,h3⟩
 | cond c x y ihx ihy=>
  intro U A a S w K r ro Q hk hs qR hQ;have hk:(xI c).f A (λv=>match v with | .bool b=>dL b ((oY E.P tb lp x).f E r A S K) ((oY E.P tb lp y).f E r A S K) | _=>false)=true:=hk;rw [kT]at hk;obtain⟨v,hk,hv⟩:=aK hs.rel hs.act hk;split at hk
  ·rename_i b
   have e:=hv.of_flat rfl;cases b with
   | true=>exact wpIn_cond_true e (ihx hk hs qR hQ)
   | false=>exact wpIn_cond_false e (ihy hk hs qR hQ)
  ·cases hk
 | block id x ih=>
  intro U A a S w K r ro Q hk hs qR hQ;have hk:(oY E.P tb lp x).f E r A S (aCk id K)=true:=hk;refine wpIn_block (ih hk hs qR ?_)
  rintro e a' w' ⟨U',ae,A',S',rfl,h1,h2,h3⟩
  cases ae with
  | normal=>exact hQ _ _ _ ⟨U',.normal,A',S',rfl,h1,h2,h3⟩
  | ret=>exact hQ _ _ _ ⟨U',.ret,A',S',rfl,h1,h2,h3⟩
  | exit i=>
   unfold aCk at h1;simp only at h1;show Exit.inBlock id Q (.exit i) a' w';split at h1
   ·rename_i hi
    have hi:=cT hi;subst hi;simp only [Exit.inBlock,if_true];exact hQ _ _ _ ⟨U',.normal,A',S',rfl,h1,h2,h3⟩
   ·rename_i hi
    have hi:=OX hi;simp only [Exit.inBlock,hi,if_false];exact hQ _ _ _ ⟨U',.exit i,A',S',rfl,h1,h2,h3⟩
 | scope x ih=>
  intro U A a S w K r ro Q hk hs qR hQ;refine Jz (ih (show(oY E.P tb lp x).f E r A S K=true from hk) hs qR ?_)
  rintro e a' w' ⟨U',ae,A',S',rfl,h1,h2,h3⟩
  cases ae with
  | normal=>exact hQ _ _ _ ⟨U',.normal,A',S',rfl,h1,h2,h3⟩
  | exit id=>exact hQ _ _ _ ⟨U',.exit id,A',S',rfl,h1,h2,h3⟩
  | ret=>exact hQ _ _ _ ⟨U',.ret,A',S',rfl,h1,h2,h3⟩
 | rangeFunc f ps as bo _ _=>
  intro U A a S w K r ro Q hk hs qR hQ;exact Po hc hk hs qR hQ
 | loop x ih=>
  intro U A a S w K r ro Q hk hs qR hQ;have hk:AC (tQ tb x) A (λvs=>lp x E r vs A.tmps.n A.marks S (aME E.P tb x K))=true:=hk;obtain⟨vs,hk,AX⟩:=hs.at hk;refine hlp x hk AX qR ?_
  rintro e a' w' ⟨U',ae,vs',n',aQp,S',rfl,h1,h2,h3⟩
  obtain⟨A',h1,h4⟩:=h2.canon h1;exact hQ _ _ _ ⟨U',ae,A',S',rfl,h1,h4,h3⟩
theorem aCm(hc:iU E.P w0 E.call)(hr:nH E.P w0 E.round)(hm:E.P.follows .mixedOrders=true)(tb:pR):∀m,aOH E w0 tb (lpX E.P tb m):=by
 intro m;induction m with
 | zero=>intro b U vs n marks a S w K r ro Q hk;cases hk
 | succ m ih=>
  intro b U vs n marks a S w K r ro Q hk AX qR hQ
  let F:Nat->List Value->Nat->List Nat->St->Bool:=YW E.P tb b (oY E.P tb (lpX E.P tb m) b) E r K
  have hk:F E.most vs n marks S=true:=hk
  let I:Nat->Act->World->Prop:=λj a' w'=>∃U' vs n marks S',F j vs n marks S'=true/\AtX E.P w0 U' (tQ tb b) vs n marks a' S' w'/\uI U w U' w'
  refine wpIn_loop (I:=λa w=>∃j,I j a w) (μ:=λa w=>least λj=>I j a w) ⟨E.most,U,vs,n,marks,S,hk,AX,.refl U w⟩ ?_
  rintro a1 w1 ⟨j0,hj0⟩
  obtain⟨hj,_⟩:=MT (p:=λj=>I j a1 w1) hj0;generalize aPU:least (λj=>I j a1 w1)=j at hj;obtain⟨U1,vs1,n1,aMF,S1,h1,h2,h3⟩:=hj;cases j with
  | zero=>cases h1
  | succ j=>
   have h1:HB (tQ tb b) vs1 n1 E.P.globals.size aMF (λA=>(oY E.P tb (lpX E.P tb m) b).f E r A S1 (Uf tb b (F j) K))=true:=h1;obtain⟨A1,h1,TX⟩:=h2.canon h1;refine YX hc hr hm ih b h1 TX (qR.mono h3.ext) ?_
   rintro e a' w' ⟨U',ae,A',S',rfl,g1,g2,g3⟩
   cases ae with
   | normal=>
    obtain⟨vs',g1,aHn⟩:=g2.at g1;have hI:I j a' w':=⟨U',vs',_,_,S',g1,aHn,h3.trans g3⟩;refine⟨⟨j,hI⟩,?_⟩;have:=(MT (p:=λj=>I j a' w') hI).2;exact Nat.lt_succ_of_le this
   | exit id=>
    obtain⟨vs',g1,aHn⟩:=g2.at g1;exact hQ _ _ _ ⟨U',.exit id,vs',_,_,S',rfl,g1,aHn,h3.trans g3⟩
   | ret=>
    obtain⟨vs',g1,aHn⟩:=g2.at g1;exact hQ _ _ _ ⟨U',.ret,vs',_,_,S',rfl,g1,aHn,h3.trans g3⟩
end
section
variable(P:Program)(tb:FuncId->pR)
def aQq(fn:Func)(K:VK):VF:=λe A S=>match e with
 | .exit _=>false
 | _=>KE A.marks S λS=>rH P fn.results.toList A S λvs=>match vs with | [v]=>K v S | vs=>K (.tuple ⟨vs⟩) S
def tE:Nat:=5
def fnX(f:FuncId)(E:Env)(args:List Value)(S:St)(K:VK):Bool:=
 match P.funcs[f]? with
 | some fn=>match fn.body with
  | some c=>cG fn.ntmps λn=>aDv n args λts=>(oY P (tb f) (lpX P (tb f) tE) c).f E none ⟨ts,[],P.globals.size⟩ S (aQq P fn K)
  | none=>false
 | none=>false
def Cm(n:Nat)(bo:Code):Nat:=match qF bo with | some i=>1000000+n*10000+i | none=>1000000
def Qb(n:Nat)(bo:Code):List Nat:=((tb (Cm n bo)).loop 1000000).1
def aKe(l:Nat)(K:VK):VF:=λe _ S=>oV S.h l λo=>match o with
 | .loop tm ps as bo _ _=>match e with
  | .normal=>rE S l (.loop tm ps as bo .ready none) λS=>K (.bool true) S
  | .ret=>rE S l (.loop tm ps as bo .done (some .ret)) λS=>K (.bool false) S
  | .exit id=>rE S l (.loop tm ps as bo .done (some (.exit id))) λS=>K (.bool false) S
 | _=>false
def aHo(n l:Nat)(bo:Code)(E:Env)(K:VK):VF:=λe A S=>match e with
 | .normal=>oV S.h l λo=>match o with
  | .loop tm ps as bo' .ready pe=>rE S l (.loop tm ps as bo' .busy pe) λS=>(oY P (tb (Cm n bo)) (lpX P (tb (Cm n bo)) tE) bo).f E (some l) A S (aKe l K)
  | _=>false
 | _=>false
def Le(E:Env)(l:Nat)(args:List Value)(S:St)(K:VK):Bool:=
 oV S.h l λo=>match o with
  | .loop tmps ps as bo _ _=>AC (Qb tb tmps.n bo) ⟨tmps,[],P.globals.size⟩ λvs=>HB (Qb tb tmps.n bo) vs tmps.n P.globals.size [] λA=>Yk ps args A.tmps λts=>
   (oY P (tb (Cm tmps.n bo)) (lpX P (tb (Cm tmps.n bo)) tE) as).f E (some l) ⟨ts,[],P.globals.size⟩ S (aHo P tb tmps.n l bo E K)
  | _=>false
def aFi(ov:FuncId->Option (List Value->St->VK->Bool))(most:Nat)(n:Nat):Env:=
 ML (β:=Env) {P,ov,call:=λ_ _ _ _=>false,round:=λ_ _ _ _=>false,most}
  (λ_ E=>{P,ov,call:=λf args S K=>match ov f with | some g=>g args S K | none=>fnX P tb f E args S K,round:=λl args S K=>Le P tb E l args S K,most}) n
inductive Dir where
 | l
 | r
 | d
variable(T:pR)(E:Env)
end
section
variable{P:Program}{tb:FuncId->pR}{w0:World}
theorem aFj{E:Env}(hP:E.P=P)(hc:iU P w0 E.call)(hr:nH P w0 E.round)(hm:P.follows .mixedOrders=true)(GT:∀(f:FuncId) (fn:Func),P.funcs[f]? =some fn->fn.name≠ "runtime.NumGoroutine"):iU P w0 (λf args S K=>fnX P tb f E args S K):=by
 subst hP;intro f args S K U w dR hk h ha;dsimp only at hk;unfold fnX at hk;split at hk
 ·rename_i fn hf
  split at hk
  ·rename_i c hb
   refine⟨λw=>?_,?_⟩
   ·have hn:=GT f fn hf
    have hp:(program).run E.P w= .ok E.P w:=rfl;simp [callFunc,hp,hf,hn,hb]
   ·rw [bA]at hk
    obtain⟨ts,hk,Jq⟩:=En hk ha;refine callsIn_of_wp_marks hf hb trivial (YX hc hr hm (aCm hc hr hm (tb f) tE) c (ro:=none) (r:=none) hk ⟨⟨Jq,rfl⟩,h,⟨rfl,by simp⟩⟩ (.inl ⟨rfl,rfl⟩) ?_)
    ·rintro e a' w' ⟨U',ae,A',S',rfl,g1,g2,g3⟩
     have fin:KE A'.marks S' (λS=>rH E.P fn.results.toList A' S λvs=>match vs with | [v]=>K v S | vs=>K (.tuple ⟨vs⟩) S)=true->LeavesInM (NZ none) 0 E.P fn a'.tmps (aBT E.P w0 U w K) a'.defers .returning w':=by
      intro hk;refine XY hk g2.rel g2.marks λS2 w2 hk hrel PY=>?_;obtain⟨vs,vs',hk,GU,dF⟩:=QB hrel g2.act hk
      have aL9:(fn.results.mapM (λ| .tmp t=>pure (a'.tmps.getD t undef) | .cell x t=>do loadVar t (<-asAddr (a'.tmps.getD x undef)):ResultVar->Sem Value)).run E.P w2= .ok ⟨vs'⟩ w2:=by
       rw [<-aBI (xs:=fn.results),List.mapM_toArray];rw [Sem.run_map];exact(lT (λr=>Result.andThen r _) dF).trans rfl
      refine⟨(if h:(⟨vs'⟩:Array Value).size=1 then(⟨vs'⟩:Array Value)[0]else .tuple ⟨vs'⟩),?_,?_⟩
      ·unfold results
       rw [bY];exact(lT (λr=>Result.andThen r _) aL9).trans rfl
      ·refine⟨_,rfl,?_⟩
       match vs,vs',hk,GU with
       | [v],[v'],hk,GU=>exact⟨U',v,S2,hk,GU.head,hrel,g3.trans PY⟩
       | [],[],hk,GU=>exact⟨U',_,S2,hk,.rI (.nil _),hrel,g3.trans PY⟩
       | a::b::l,a2::b2::l2,hk,GU=>
        have:¬(⟨a2::b2::l2⟩:Array Value).size=1:=by simp
        rw [dif_neg this];exact⟨U',_,S2,hk,.rI GU,hrel,g3.trans PY⟩
       | [],_::_,_,GU=>have:=GU.1;simp at this
       | _::_,[],_,GU=>have:=GU.1;simp at this
       | [_],_::_::_,_,GU=>have:=GU.1;simp at this
       | _::_::_,[_],_,GU=>have:=GU.1;simp at this
     cases ae with
     | normal=>exact fin g1
     | ret=>exact fin g1
     | exit id=>cases g1
  ·cases hk
 ·cases hk
theorem Uh{E:Env}(hP:E.P=P)(hc:iU P w0 E.call)(hr:nH P w0 E.round)(hm:P.follows .mixedOrders=true):nH P w0 (Le P tb E):=by
 subst hP;intro l args S K U w dR L hk h ha hL;unfold Le at hk;obtain⟨o,ho,hk⟩:=oH hk;split at hk
 ·rename_i tmps params assign body st pe
  obtain⟨r,hb,hrr,Xe,hpe,Ee,has,hbo,htm⟩:=vA h ho hL;have aQr:SR E.P w0 U ⟨tmps,[],E.P.globals.size⟩ {tmps:=r.tmps,defers:=[]} S w:=⟨⟨htm,rfl⟩,h,⟨rfl,by simp⟩⟩;obtain⟨vs,hk,AX⟩:=aQr.at hk;obtain⟨A0,hk,hA0⟩:=AX.canon hk;obtain⟨ts,hk,hlen,Jq⟩:=Kb hk ha hA0.act.tmps
  have aBV:(Instr.yield L.b ⟨dR⟩).run E.P w= .ok (.round L.b r.fn ((r.params.zip ⟨dR⟩).foldl (λtmps (x:Tmp×Value)=>tmps.setIfInBounds x.1 x.2) r.tmps) r.assign r.body) w:=by
   have hsz:(⟨dR⟩:Array Value).size=r.params.size:=by
    show dR.length=_;rw [hlen,<-Ee];rfl
   have wC:¬(⟨dR⟩:Array Value).size≠r.params.size:=λhh=>hh hsz;simp only [Instr.yield,bY,run_getLoop hrr,dU,if_neg wC,jU]
  refine⟨_,_,_,_,aBV,?_⟩;refine roundIn_of_wpIn trivial ?_;rw [has]
  have aMa:((r.params.zip ⟨dR⟩).foldl (λtmps (x:Tmp×Value)=>tmps.setIfInBounds x.1 x.2) r.tmps)=(params.zip dR).foldl (λtmps (x:Tmp×Value)=>tmps.setIfInBounds x.1 x.2) r.tmps:=by
   rw [<-aBL]
   congr 1
   rw [Array.toList_zip,Ee]
  rw [aMa];refine YX hc hr hm (aCm hc hr hm _ tE) assign (ro:=some L.b) hk ⟨⟨Jq,rfl⟩,h,⟨rfl,by simp⟩⟩ (.inr ⟨l,L,rfl,hL,rfl⟩) ?_
  rintro e a' w' ⟨U1,ae,A1,S1,rfl,g1,g2,g3⟩
  unfold aHo at g1;cases ae with
  | exit id=>cases g1
  | ret=>cases g1
  | normal=>
   simp only at g1;obtain⟨o1,ho1,g1⟩:=oH g1;have Sz:=g3.ext _ _ hL;split at g1
   ·rename_i tm ps as bo pe1
    obtain⟨r1,Kc,aGI,Ym,aMb,aMc,aMd,aMe,aMf⟩:=vA g2.rel ho1 Sz;obtain⟨q1,q2,q3⟩:=QA g2.rel ho1 Sz Kc aGI aMc aMd aMe aMf .busy pe1;rw [gR]at g1;refine⟨w'.putObj L.b (.loop {r1 with state:= .busy,pending:=pe1}),?_,?_⟩
    ·have q3':(setObj L.b (.loop {r1 with state:= .busy})).run E.P w'= .ok () (w'.putObj L.b (.loop {r1 with state:= .busy,pending:=pe1})):=by
      rw [<-aMb]at q3 ⊢;exact q3
     simp only [Instr.beginRound,bY,run_getLoop aGI,dU,q3',Ym,jU]
    ·rw [hbo]
     refine YX hc hr hm (aCm hc hr hm _ tE) body (ro:=some L.b) g1 ⟨g2.act,q1,g2.marks⟩ (.inr ⟨l,L,rfl,Sz,rfl⟩) ?_
     rintro e2 a2 w2 ⟨U2,ae2,A2,S2,rfl,k1,k2,k3⟩
     unfold aKe at k1;obtain⟨o2,wK,k1⟩:=oH k1;have Sq:=k3.ext _ _ Sz;split at k1
     ·rename_i tm2 ps2 as2 bo2 st2 pe2
      obtain⟨r2,TC,aGJ,aJO,aPV,aMg,aMh,aMi,aMj⟩:=vA k2.rel wK Sq
      have fin:∀(Hj:LoopState) (jump:Option Code) (bv:Bool),K (.bool bv) (S2.set l (.loop tm2 ps2 as2 bo2 Hj jump))=true->bv=jump.isNone->Hj=(if jump.isNone then .ready else .done)->
       ∃v w',(Instr.endRound L.b jump).run E.P w2= .ok v w'/\aBT E.P w0 U w K (.returned v) w':=by
       intro Hj jump bv hK hbv aGK;obtain⟨z1,z2,z3⟩:=QA k2.rel wK Sq TC aGJ aMg aMh aMi aMj Hj jump;refine⟨.bool bv,_,?_,.bool bv,rfl,U2,.bool bv,_,hK,.flat rfl,z1,((g3.trans q2).trans k3).trans z2⟩;rw [aGK]at z3 ⊢;simp only [Instr.endRound,bY,run_getLoop aGJ,dU,z3,jU,hbv]
      cases ae2 with
      | normal=>
       simp only [gR]at k1;exact fin .ready none true k1 rfl rfl
      | ret=>
       simp only [gR]at k1;exact fin .done (some .ret) false k1 rfl rfl
      | exit id=>
       simp only [gR]at k1;exact fin .done (some (.exit id)) false k1 rfl rfl
     ·cases k1
   ·cases g1
 ·cases hk
theorem aMG(P:Program)(tb:FuncId->pR)(ov:FuncId->Option (List Value->St->VK->Bool))(most n:Nat):(aFi P tb ov most n).P=P:=by cases n<;>rfl
theorem aCn{ov:FuncId->Option (List Value->St->VK->Bool)}{most:Nat}(hov:Gq P w0 ov)(GT:∀(f:FuncId) (fn:Func),P.funcs[f]? =some fn->fn.name≠ "runtime.NumGoroutine")(hm:P.follows .mixedOrders=true):∀n,iU P w0 (aFi P tb ov most n).call/\nH P w0 (aFi P tb ov most n).round:=by
 intro n;induction n with
 | zero=>
  refine⟨?_,?_⟩
  ·intro f args S K U w dR hk;cases hk
  ·intro l args S K U w dR L hk;cases hk
 | succ n ih=>
  obtain⟨ih1,ih2⟩:=ih;have hP:=aMG P tb ov most n;refine⟨λf args S K U w dR hk h ha=>?_,?_⟩
  ·have hk:(match(generalizing:=false) ov f with | some g=>g args S K | none=>fnX P tb f (aFi P tb ov most n) args S K)=true:=hk
   split at hk
   ·rename_i g hg
    exact hov f g hg f args S K U w dR (by simpa using hk) h ha
   ·exact aFj (tb:=tb) hP ih1 ih2 hm GT f args S K U w dR hk h ha
  ·exact Uh hP ih1 ih2 hm
end
end Go.Am
namespace Go.Am
def bL(l:List (Nat×List Nat×List Nat×List Nat))(i:Nat):List Nat×List Nat×List Nat:=fS (β:=List Nat×List Nat×List Nat) ([],[],[]) (λp _ ih=>dL (Nat.beq p.1 i) p.2 ih) l
def bM(l:List (Nat×List Nat))(i:Nat):Option (List Nat):=fS (β:=Option (List Nat)) none (λp _ ih=>dL (Nat.beq p.1 i) (some p.2) ih) l
def aOI(l:List (Nat×pR))(f:FuncId):pR:=fS (β:=pR) ⟨λ_=>([],[],[]),λ_=>none⟩ (λp _ ih=>dL (Nat.beq p.1 f) p.2 ih) l
section
variable{P:Program}
theorem aCi(off b o:Nat)(K:Value->Bool):aG6 off (.pointer (some ⟨b,o,none⟩)) K=K (.pointer (some ⟨b,o+off,none⟩)):=by
 show cG (o+off) (λo=>K (.pointer (some ⟨b,o,none⟩)))=_;rw [bA]
theorem aMB(i:Nat)(vs:List Value)(K:Value->Bool):aHd i (.tuple ⟨vs⟩) K=SZ vs i λv=>K v:=rfl
theorem Uc{α:Type}{l:List α}{i:Nat}{v:α}(h:l[i]? =some v)(k:α->Bool):SZ l i k=k v:=by
 induction l generalizing i with
 | nil=>cases h
 | cons a l ih=>
  cases i with
  | zero=>simp at h;subst h;rfl
  | succ i=>exact ih (by simpa using h)
theorem aKb(l:List UInt8)(K:Value->Bool):Zv (.string ⟨⟨l⟩⟩) K=K (.int .i64 (.ofNat l.length)):=kM _ _
theorem aMC(k j:IntKind)(n:Int)(K:Value->Bool):aHc k (.int j n) K=K (.int k (lC k n)):=by
 show zK (lC k n) (λn=>K (.int k n))=_;rw [nG]
theorem AB{S:St}{i:Nat}{vs:List Value}{e:TypeId}{c:CK}(h:S.obj i=some (.cells vs e c))(k:List Value->TypeId->CK->Bool):wJ S i k=k vs e c:=by
 unfold wJ;rw [lV];have h:S.h.get i=some (.cells vs e c):=h;rw [h]
theorem aHj{S:St}{i o:Nat}{vs:List Value}{e:TypeId}{c:CK}{v:Value}(h:S.obj i=some (.cells vs e c))(hv:vs[o]? =some v)(K:VK):rLd (.pointer (some ⟨i,o,none⟩)) S K=K v S:=by
 show wJ S i (λvs _ _=>SZ vs o λv=>K v S)=_;rw [AB h,Uc hv]
theorem FP{S:St}{i o n:Nat}{vs:List Value}{e:TypeId}{c:CK}(h:S.obj i=some (.cells vs e c))(hn:o+n<=vs.length)(k:List Value->Bool):EQ S i o n k=k ((vs.drop o).take n):=by
 show wJ S i (λvs _ _=>IM o vs λl=>PE n l k)=_;rw [AB h,zT,if_pos (by omega),CX,if_pos (by simp;omega)]
theorem aCj{S:St}{i o n:Nat}{vs:List Value}{e:TypeId}{c:CK}(h:S.obj i=some (.cells vs e c))(hn:o+n<=vs.length)(K:VK):aG5 n (.pointer (some ⟨i,o,none⟩)) S K=K (.agg ⟨(vs.drop o).take n⟩) S:=by
 show EQ S i o n (λl=>K (.agg ⟨l⟩) S)=_;rw [FP h hn]
theorem aHk{cs:List Value}{off:Nat}{v:Value}(h:cs[off]? =some v)(K:Value->Bool):La off (.agg ⟨cs⟩) K=K v:=by
 show SZ cs off K=_;rw [Uc h]
theorem aFg{cs:List Value}{off n:Nat}(h:off+n<=cs.length)(K:Value->Bool):YQ off n (.agg ⟨cs⟩) K=K (.agg ⟨(cs.drop off).take n⟩):=by
 show IM off cs (λl=>PE n l λl=>K (.agg ⟨l⟩))=_;rw [zT,if_pos (by omega),CX,if_pos (by simp;omega)]
theorem Zz{v:Value}(h:gH v=true)(k:List Value->Bool):oW v k=k [v]:=by cases v<;>first | rfl | cases h
theorem aHl(z:List Value)(t:TypeId)(S:St)(K:VK):Ck z t S K=K (.pointer (some ⟨S.n,0,none⟩)) (S.new (.cells z t .exact)):=by
 unfold Ck aJG
 have:∀(z:List Value) (k:List Value->Bool),fS (β:=(List Value->Bool)->Bool) (λk=>k []) (λa _ ih k=>ih λt=>k (a::t)) z k=k z:=by
  intro z;induction z with
  | nil=>intro k;rfl
  | cons a z ih=>intro k;exact ih _
 rw [this,gZ]
theorem aMD(op:BinOp)(t:TypeId)(k:IntKind)(a b:Int)(K:Value->Bool)(h1:op≠ .shl)(h2:op≠ .shr):aHb P op t (.int k a) (.int k b) K=MM op k a b K:=by
 rw [MY];have hk:BN k k=true:=by cases k<;>rfl
 cases op<;>first | exact absurd rfl h1 | exact absurd rfl h2 | (show(match BN k k with | true=>_ | false=>false)=_;rw [hk])
theorem aKc(b:Bool)(K:Value->Bool):unK .not (.bool b) K=K (.bool (!b)):=by
 show UX (!b) (λb=>K (.bool b))=_;rw [oQ]
theorem gV{S:St}{o:iP}{i:Nat}(h:i≠S.n):(S.new o).obj i=S.obj i:=by rw [MQ,if_neg h]
theorem sO{S:St}{o:iP}:(S.new o).obj S.n=some o:=by rw [MQ,if_pos rfl]
theorem Ud{S:St}{i:Nat}{o:iP}:(S.set i o).obj i=some o:=by rw [CM,if_pos rfl]
theorem kZ{S:St}{i j:Nat}{o:iP}(h:j≠i):(S.set i o).obj j=S.obj j:=by rw [CM,if_neg h]
theorem aFh(j:IntKind)(z:Int):OB (.int j z) (.int j z)=true:=by
 have h1:BN j j=true:=by cases j<;>rfl
 show(BN j j&&Hg z z)=true;rw [h1,uV];simp
def Ue(l:List UInt8):List Value:=l.map λb=> .int .u8 (.ofNat b.toNat)
structure Src(S:St)(size:Nat)(x:Value)(n:Nat)(new:List Value):Prop where
 len:∀k,KX x k=k n
 first:∀k,n≠0->GJ S size n x k=k new
 one:∀v∈new,gH v=true
theorem Src.text(S:St)(l:List UInt8):Src S 1 (.string ⟨⟨l⟩⟩) l.length (Ue l):=by
 refine⟨λk=>kM _ _,λk h=>?_,λv hv=>?_⟩
 ·show PE l.length l (λl=>aGs l k)=_
  rw [CX,if_pos (bI _),US,Sh];rfl
 ·obtain⟨b,_,rfl⟩:=mF.1 hv
  rfl
theorem Src.row{S:St}{i o n c size:Nat}{vs:List Value}{e:TypeId}{ck:CK}(h:S.obj i=some (.cells vs e ck))(hn:o+n*size<=vs.length)(h1:∀v∈(vs.drop o).take (n*size),gH v=true):Src S size (.slice (some ⟨i,o,none⟩) n c) n ((vs.drop o).take (n*size)):=by
 refine⟨λk=>rfl,λk hz=>?_,h1⟩;obtain⟨m,rfl⟩:=pV hz;show EQ S i o ((m+1)*size) k=_;rw [FP h hn]
theorem aHm{elem size bytes n:Nat}{S:St}{x:Value}{new:List Value}(hx:Src S size x n new)(hz:n≠0)(hb:(n*bytes<=140737488355328/\n<=140737488355328))(K:VK):
 Zw P elem size bytes (.slice none 0 0) x S K=K (.slice (some ⟨S.n,0,some 0⟩) n n) (S.new (.cells new elem (.grown []))):=by
 obtain⟨m,rfl⟩:=pV hz;show KX x _=_;rw [hx.len];show GJ S size (m+1) x _=_;rw [hx.first _ hz];simp only [bA,gB];rw [show EP (m+1) bytes=true from PF hb];have:Nat.ble (m+1) 0=false:=rfl;simp only [this];show NW elem [] new (m+1) none S K=_;unfold NW;rw [lE];simp only [PB,gZ]
theorem aAa{elem size bytes n m j:Nat}{S:St}{x:Value}{new vs:List Value}{olds:List Nat}(hx:Src S size x n new)(hz:n≠0)(hb:((m+n)*bytes<=140737488355328/\(m+n)<=140737488355328))
 (hj:S.obj j=some (.cells vs elem (.grown olds))) (hv:vs.length=m*size) (hs:bP P elem=some size) (K:VK):
 Zw P elem size bytes (.slice (some ⟨j,0,some 0⟩) m m) x S K=K (.slice (some ⟨S.n,0,some 0⟩) (m+n) (m+n)) ((S.set j (.cells vs elem .sA)).new (.cells (vs++new) elem (.grown (j::olds)))):=by
 obtain⟨p,rfl⟩:=pV hz;show KX x _=_;rw [hx.len];show GJ S size (p+1) x _=_;rw [hx.first _ hz];simp only [bA];rw [show EP (m+(p+1)) bytes=true from PF hb]
 have:Nat.ble (m+(p+1)) m=false:=by
  cases h:Nat.ble (m+(p+1)) m with
  | false=>rfl
  | true=>have:=aW h;omega
 simp only [this];show wJ S j _=_;rw [AB hj];simp only [kM,gB,hv,hs];have GM:rD gH new=true:=by rw [jZ];exact dJ.2 hx.one
 simp only [show Nat.beq (m*size) (m*size)=true from MK _,show Nat.beq size size=true from MK _,show Nat.beq elem elem=true from MK _,GM];rw [FP hj (by omega)];rw [DX,<-hv,US];show NW elem vs new (m+(p+1)) (some (j,vs,elem,olds)) S K=_;unfold NW;rw [lE];simp only [gR,gZ];rfl
end
inductive Tag where
 | root (n:Nat)
 | sub (t:Tag) (k:Nat)
 | cut (t:Tag) (o n c:Nat)
inductive Dt where
 | int (k:IntKind) (z:Int)
 | bool (b:Bool)
 | str (l:List UInt8)
 | list (cs:List Dt) (n:Nat)
inductive V where
 | int (k:IntKind) (z:Int)
 | bool (b:Bool)
 | str (l:List UInt8)
 | list (O:Tag) (cs:List Dt) (n:Nat)
 | rK (O:Tag) (cs:List Dt) (o:Nat)
 | nil
 | acc (i n:Nat)
 | qX (i n o:Nat)
 | oR (i n o k c:Nat)
 | emp (i n:Nat)
 | own (i o n c:Nat)
 | ptr (i o:Nat)
 | lU
 | func (f:FuncId) (a c:List V)
 | yield (l:Nat)
 | GS (s:String) (v:V)
 | iface (t:TypeId) (v:V)
 | Ok
 | QV
 | sP (i:Nat)
 | Om
 | agg (cs:List V)
 | tuple (cs:List V)
def T(O:Tag):Dt->V
 | .int k z=> .int k z
 | .bool b=> .bool b
 | .str l=> .str l
 | .list cs n=> .list O cs n
def Tl(O:Tag):Nat->List Dt->List V
 | _,[]=>[]
 | o,d::l=>T (.sub O o) d::Tl O (o+1) l
inductive Ob where
 | row (vs:List V) (t:TypeId)
 | iX (vs:List V) (t:TypeId) (n:Nat)
 | map (es:List (V×V))
 | ZG (es:List (V×V)) (bs:List Nat) (ck:Nat)
 | iter (m since:Nat) (seen:List Nat) (last:Nat)
 | loop (ls:List Nat) (vs:List V) (n:Nat) (ps:List Tmp) (as bo:Code) (st:LoopState) (pe:Option Code)
def QW:Ob->Bool
 | .iX _ _ _=>true
 | _=>false
abbrev Hp:=Nat->Option Ob
def aM(S:Hp)(i:Nat)(o:Ob):Hp:=λj=>if j=i then some o else S j
def cP(S' S:Hp):Prop:=∀i o,S' i=some o->S i=some o
abbrev KV:=V->Hp->Prop
def pN:V->Bool
 | .agg _=>false
 | .tuple _=>false
 | _=>true
def ofV:Value->Option V
 | .int k z=>some (.int k z)
 | .bool b=>some (.bool b)
 | .string ⟨⟨l⟩⟩=>some (.str l)
 | .pointer none=>some .lU
 | .slice none 0 0=>some .nil
 | .nilIface=>some .Ok
 | .nilFunc=>some .QV
 | .map none=>some .Om
 | _=>none
def ED:List Value->Option (List V)
 | []=>some []
 | v::l=>match ofV v with
  | some x=>match ED l with | some xs=>some (x::xs) | none=>none
  | none=>none
def MZ:V:= .tuple []
def ZH{α:Type}(l:List α)(i:Nat)(k:α->Prop):Prop:=match l[i]? with | some a=>k a | none=>False
def QX{α:Type}(l:List α)(o n:Nat)(k:List α->Prop):Prop:=o+n<=l.length/\k ((l.drop o).take n)
def iQ(c:V)(a b:Prop):Prop:=match c with
 | .bool v=>match v with | true=>a | false=>b
 | _=>False
def QY(c a b:V)(K:V->Prop):Prop:=match c with
 | .bool v=>match v with | true=>K a | false=>K b
 | _=>False
def bJ(a:V)(S:Hp)(K:KV):Prop:=match a with
 | .ptr i o=>match S i with
  | some (.row vs _)=>ZH vs o λv=>K v S
  | _=>False
 | .rK O cs o=>ZH cs o λd=>K (T (.sub O o) d) S
 | .qX i n o=>match S i with
  | some (.iX vs _ m)=>m=n/\ZH vs o λv=>K v S
  | _=>False
 | _=>False
def cU(n:Nat)(a:V)(S:Hp)(K:KV):Prop:=match a with
 | .ptr i o=>match S i with
  | some (.row vs _)=>QX vs o n λl=>K (.agg l) S
  | _=>False
 | .rK O cs o=>QX cs o n λl=>K (.agg (Tl O o l)) S
 | .qX i m o=>match S i with
  | some (.iX vs _ m')=>m'=m/\QX vs o n λl=>K (.agg l) S
  | _=>False
 | _=>False
def yD(v:V)(k:List V->Prop):Prop:=match v with
 | .agg cs=>cs.all pN=true/\k cs
 | .tuple _=>False
 | v=>k [v]
def mE(n:Nat)(a x:V)(S:Hp)(k:Hp->Prop):Prop:=match a with
 | .ptr i o=>match S i with
  | some (.row vs t)=>yD x λcs=>cs.length=n/\o+n<=vs.length/\k (aM S i (.row (aE o cs vs) t))
  | _=>False
 | .qX i q o=>match S i with
  | some (.iX vs t m)=>m=q/\yD x λcs=>cs.length=n/\o+n<=vs.length/\k (aM S i (.iX (aE o cs vs) t m))
  | _=>False
 | _=>False
def aHT(vs:List V)(t:TypeId)(S:Hp)(K:Nat->Hp->Prop):Prop:=∀i,S i=none->K i (aM S i (.row vs t))
def AD(z:List Value)(k:List V->Prop):Prop:=match ED z with | some l=>k l | none=>False
def eI(z:List Value)(t:TypeId)(S:Hp)(K:KV):Prop:=AD z λl=>aHT l t S λi S=>K (.ptr i 0) S
def pO(t:TypeId)(v:V)(S:Hp)(K:KV):Prop:=yD v λcs=>aHT cs t S λi S=>K (.ptr i 0) S
def vD:List (Nat×Nat×V)->List V->(List V->Prop)->Prop
 | [],cs,k=>k cs
 | (o,n,v)::ps,cs,k=>yD v λnew=>new.length=n/\o+n<=cs.length/\vD ps (aE o new cs) k
def fX(zero:List Value)(ps:List (Nat×Nat×V))(K:V->Prop):Prop:=AD zero λz=>vD ps z λcs=>K (.agg cs)
def dN(el:TypeId)(n:Nat)(zero:List Value)(ps:List (Nat×Nat×V))(S:Hp)(K:KV):Prop:=
 AD zero λz=>vD ps (List.replicate n z).flatten λcs=>aHT cs el S λi S=>K (.own i 0 n n) S
def bF(off:Nat)(x:V)(K:V->Prop):Prop:=match x with
 | .ptr i o=>K (.ptr i (o+off))
 | .rK O cs o=>K (.rK O cs (o+off))
 | .qX i n o=>K (.qX i n (o+off))
 | _=>False
def aCE(off:Nat)(x:V)(K:V->Prop):Prop:=match x with
 | .agg cs=>ZH cs off K
 | _=>False
def Uo(off n:Nat)(x:V)(K:V->Prop):Prop:=match x with
 | .agg cs=>QX cs off n λl=>K (.agg l)
 | _=>False
def jM(size:Nat)(x ix:V)(K:V->Prop):Prop:=match ix with
 | .int _ (.ofNat i)=>match x with
  | .list O cs n=>i<n/\K (.rK O cs (i*size))
  | .own b o n _=>i<n/\K (.ptr b (o+i*size))
  | .acc b n=>i<n/\K (.qX b n (i*size))
  | .oR b n o m _=>i<m/\K (.qX b n (o+i*size))
  | _=>False
 | _=>False
def aKu(P:Program)(t:TypeId):Option (Nat×Nat):=match P.underlying t with
 | some (.array len e)=>match bP P e with
  | some n=>some (len,n)
  | none=>none
 | _=>none
def aEa(len size:Nat)(x ix:V)(K:V->Prop):Prop:=match ix with
 | .int _ (.ofNat i)=>match x with
  | .ptr b o=>i<len/\K (.ptr b (o+i*size))
  | _=>False
 | _=>False
def aCF(x ix:V)(K:V->Prop):Prop:=match ix with
 | .int _ (.ofNat i)=>match x with
  | .str l=>ZH l i λb=>K (.int .u8 (.ofNat b.toNat))
  | _=>False
 | _=>False
def nF(i:Nat)(x:V)(K:V->Prop):Prop:=match x with
 | .tuple vs=>ZH vs i K
 | _=>False
def Lo(k:IntKind)(x:V)(K:V->Prop):Prop:=match x with
 | .int _ n=>K (.int k (lC k n))
 | _=>False
def dC(x:V)(K:V->Prop):Prop:=match x with
 | .list _ _ n=>K (.int .i64 (.ofNat n))
 | .nil=>K (.int .i64 (.ofNat 0))
 | .acc _ n=>K (.int .i64 (.ofNat n))
 | .own _ _ n _=>K (.int .i64 (.ofNat n))
 | .oR _ _ _ k _=>K (.int .i64 (.ofNat k))
 | .emp _ _=>K (.int .i64 (.ofNat 0))
 | _=>False
def JA(x:V)(K:V->Prop):Prop:=match x with
 | .str l=>K (.int .i64 (.ofNat l.length))
 | _=>False
def TF(size:Nat)(x:V)(S:Hp)(k:Nat->List V->Prop):Prop:=match x with
 | .nil=>k 0 []
 | .list O cs n=>n*size<=cs.length/\k n (Tl O 0 (cs.take (n*size)))
 | .own i o n _=>match S i with
  | some (.row vs _)=>QX vs o (n*size) λl=>k n l
  | _=>False
 | .acc i n=>match S i with
  | some (.iX vs _ m)=>m=n/\vs.length=n*size/\k n vs
  | _=>False
 | .oR i n o q _=>match S i with
  | some (.iX vs _ m)=>m=n/\QX vs o (q*size) λl=>k q l
  | _=>False
 | .emp _ _=>k 0 []
 | .str l=>size=1/\k l.length (l.map λb=> .int .u8 (.ofNat b.toNat))
 | _=>False
def aEb(el:TypeId)(vs:List V)(n:Nat)(S:Hp)(K:KV):Prop:=∀i,S i=none->K (.acc i n) (aM S i (.iX vs el n))
def qG(el:TypeId)(size bytes:Nat)(s x:V)(S:Hp)(K:KV):Prop:=TF size x S λm new=>match m with
 | 0=>(match s with | .nil=>K s S | .acc _ _=>K s S | .own _ _ n c=>n<=c/\K s S | .list _ _ _=>K s S | .oR _ _ _ n c=>n<=c/\K s S | _=>False)
 | m+1=>new.all pN=true/\match s with
  | .nil=>((m+1)*bytes<=140737488355328/\(m+1)<=140737488355328)/\aEb el new (m+1) S K
  | .acc i n=>match S i with
   | some (.iX vs t n')=>n'=n/\t=el/\vs.length=n*size/\((n+(m+1))*bytes<=140737488355328/\(n+(m+1))<=140737488355328)/\K (.acc i (n+(m+1))) (aM S i (.iX (vs++new) el (n+(m+1))))
   | _=>False
  | .own i o n c=>match S i with
   | some (.row vs t)=>((n+(m+1))*bytes<=140737488355328/\(n+(m+1))<=140737488355328)/\o+n*size<=vs.length/\
    (n+(m+1)<=c->o+n*size+new.length<=vs.length/\K (.own i o (n+(m+1)) c) (aM S i (.row (aE (o+n*size) new vs) t)))/\
    (c<n+(m+1)->aEb el ((vs.drop o).take (n*size)++new) (n+(m+1)) S K)
   | _=>False
  | .oR i q o n c=>match S i with
   | some (.iX vs t q')=>q'=q/\t=el/\((n+(m+1))*bytes<=140737488355328/\(n+(m+1))<=140737488355328)/\
    (n+(m+1)<=c->o+n*size+new.length<=vs.length/\K (.oR i q o (n+(m+1)) c) (aM S i (.iX (aE (o+n*size) new vs) t q)))/\
    (c<n+(m+1)->o=0/\n=q/\c=q/\vs.length=q*size/\K (.acc i (q+(m+1))) (aM S i (.iX (vs++new) el (q+(m+1)))))
   | _=>False
  | _=>False
def jI(P:Program)(v:V)(K:V->Prop):Prop:=match v with
 | .ptr i o=>K (.ptr i o)
 | .rK O cs o=>K (.rK O cs o)
 | .qX i n o=>K (.qX i n o)
 | .func f a c=>K (.func f a c)
 | .iface t w=>K (.iface t w)
 | .GS s v=>match v with
  | .iface t w=>match GK P t s with
   | some _=>K (.GS s (.iface t w))
   | none=>False
  | _=>False
 | _=>False
abbrev aLK:=FuncId->List V->Hp->KV->Prop
def aOX(P:Program)(call:aLK)(r:V)(m:String)(args:List V)(S:Hp)(K:KV):Prop:=match r with
 | .iface t v=>match GK P t m with
  | some g=>call g (v::args) S K
  | none=>False
 | _=>False
def Qh(l:Nat)(S:Hp)(k:Hp->Prop):Prop:=match S l with
 | some (.loop ls vs n ps as bo .ready pe)=>k (aM S l (.loop ls vs n ps as bo .busy pe))
 | _=>False
def UD(l:Nat)(st:LoopState)(pe:Option Code)(b:Bool)(S:Hp)(K:KV):Prop:=match S l with
 | some (.loop ls vs n ps as bo _ _)=>K (.bool b) (aM S l (.loop ls vs n ps as bo st pe))
 | _=>False
def aAu(l:Nat)(S:Hp)(k:Option Code->Hp->Prop):Prop:=match S l with
 | some (.loop ls vs n ps as bo st pe)=>match st with
  | .busy=>False
  | _=>k pe (aM S l (.loop ls vs n ps as bo .exhausted pe))
 | _=>False
def Fh(pe:Option Code)(kn kr:Prop)(ke:Nat->Prop):Prop:=match pe with
 | none=>kn
 | some .ret=>kr
 | some (.exit id)=>ke id
 | _=>False
def Hy(l:Nat)(S:Hp)(p:Prop):Prop:=match S l with
 | some (.loop _ _ _ _ _ _ _ _)=>p
 | _=>False
abbrev aEc(i id:Nat)(a b:Prop):Prop:=Bool.rec (motive:=λ_=>Prop) b a (Nat.beq i id)
def Hz:V->Bool
 | .int _ _ | .bool _ | .str _ | .list _ _ _ | .nil | .ptr _ _ | .lU | .rK _ _ _ | .qX _ _ _ | .acc _ _ | .oR _ _ _ _ _ | .own _ _ _ _ | .sP _ | .Om | .Ok | .QV=>true
 | _=>false
def Ia:V->Bool
 | .func _ a c=>a.all Hz&&c.all Hz
 | v=>Hz v
def Ib:V->Bool
 | .agg cs=>cs.all Ia
 | v=>Ia v
def VY:V->Bool
 | .tuple cs=>cs.all Ib
 | v=>Ib v
def aT(v u:V)(k:Prop):Prop:=v=u/\VY v=true/\k
def aHU(w:Bool)(v:V)(k:Bool->Prop):Prop:=match v with
 | .bool b=>match b,w with | true,true=>k true | false,false=>k true | _,_=>k false
 | .tuple []=>k false
 | _=>False
def eL(w:Bool)(v:V)(op:KV->Prop)(S:Hp)(k:KV):Prop:=aHU w v λb=>match b with | true=>op k | false=>k MZ S
def aOY(u:V)(k:Prop):Prop:=match u with | .tuple []=>k | _=>False
def AE(w:Bool)(v u:V)(op:Prop->Prop)(k:Prop):Prop:=aHU w v λb=>match b with | true=>op k | false=>aOY u k
def fY(most:Nat)(p:Prop):Prop:=Nat.rec (motive:=λ_=>Prop->Prop) (λx=>x) (λ_ _ x=>x) most p
theorem aL(most:Nat)(p:Prop):fY most p=p:=by cases most<;>rfl
def QZ(op:BinOp)(k:IntKind)(x y:Int)(K:V->Prop):Prop:=match op with
 | .add=>K (.int k (lC k (x+y)))
 | .sub=>K (.int k (lC k (x-y)))
 | .mul=>K (.int k (lC k (x*y)))
 | .quo=>y≠0/\K (.int k (lC k (x.tdiv y)))
 | .rem=>y≠0/\K (.int k (x.tmod y))
 | .and=>K (.int k (k.wrap (BitVec.ofInt k.bits x &&& BitVec.ofInt k.bits y).toNat))
 | .or=>K (.int k (k.wrap (BitVec.ofInt k.bits x ||| BitVec.ofInt k.bits y).toNat))
 | .xor=>K (.int k (k.wrap (BitVec.ofInt k.bits x ^^^ BitVec.ofInt k.bits y).toNat))
 | .andNot=>K (.int k (k.wrap (BitVec.ofInt k.bits x &&& ~~~ BitVec.ofInt k.bits y).toNat))
 | .eql=>K (.bool (decide (x=y)))
 | .neq=>K (.bool (!decide (x=y)))
 | .lss=>K (.bool (decide (x<y)))
 | .leq=>K (.bool (decide (x<=y)))
 | .gtr=>K (.bool (decide (y<x)))
 | .geq=>K (.bool (decide (y<=x)))
 | _=>False
def aMX(op:BinOp)(k:IntKind)(x y:Int)(K:V->Prop):Prop:=0<=y/\match op with
 | .shl=>K (.int k (lC k (x*2 ^ (min y.toNat k.bits))))
 | .shr=>K (.int k (x.fdiv (2 ^ (min y.toNat k.bits))))
 | _=>False
def aHV(op:BinOp)(a b:List UInt8)(K:V->Prop):Prop:=match op with
 | .add=>a.length+b.length<9223372036854775808/\K (.str (a++b))
 | .eql=>K (.bool (decide (a=b)))
 | .neq=>K (.bool (!decide (a=b)))
 | .lss=>K (.bool (Op.bytesLess a b))
 | _=>False
def aEd(op:BinOp)(a b:Bool)(K:V->Prop):Prop:=match op with
 | .eql=>K (.bool (decide (a=b)))
 | .neq=>K (.bool (!decide (a=b)))
 | _=>False
def xL:BinOp->Bool
 | .shl | .shr=>true
 | _=>false
def Ic(P:Program)(t:TypeId):Bool:=match P.underlying t with | some .bool=>true | _=>false
inductive NK where
 | ptr
 | slice
 | map
 | func
 | iface
def NA:V->Option (NK×Bool)
 | .ptr _ _=>some (.ptr,false)
 | .rK _ _ _=>some (.ptr,false)
 | .qX _ _ _=>some (.ptr,false)
 | .lU=>some (.ptr,true)
 | .own _ _ _ _=>some (.slice,false)
 | .acc _ _=>some (.slice,false)
 | .oR _ _ _ _ _=>some (.slice,false)
 | .list _ (_::_) _=>some (.slice,false)
 | .nil=>some (.slice,true)
 | .sP _=>some (.map,false)
 | .Om=>some (.map,true)
 | .func _ _ _=>some (.func,false)
 | .GS _ _=>some (.func,false)
 | .QV=>some (.func,true)
 | .iface _ _=>some (.iface,false)
 | .Ok=>some (.iface,true)
 | _=>none
def RA(P:Program)(t:TypeId):Option NK:=match P.underlying t with
 | some (.pointer _)=>some .ptr
 | some (.slice _)=>some .slice
 | some (.map _ _)=>some .map
 | some (.func _ _ _)=>some .func
 | some (.interface _)=>some .iface
 | _=>none
def aCG(P:Program)(op:BinOp)(t:TypeId)(a b:V)(K:V->Prop):Prop:=match a with
 | .list _ [] _=>match b with
  | .nil=>RA P t=some .slice/\match op with
   | .eql=>K (.bool true)/\K (.bool false)
   | .neq=>K (.bool true)/\K (.bool false)
   | _=>False
  | _=>False
 | _=>False
def VZ(P:Program)(op:BinOp)(t:TypeId)(a b:V)(K:V->Prop):Prop:=match NA a with
 | some (k,x)=>match NA b with
  | some (l,y)=>k=l/\RA P t=some k/\(x=true\/y=true)/\(x=true->y=true->k≠ .iface)/\match op with
   | .eql=>K (.bool (x&&y))
   | .neq=>K (.bool (!(x&&y)))
   | _=>False
  | none=>False
 | none=>aCG P op t a b K
def aD(P:Program)(op:BinOp)(t:TypeId)(a b:V)(K:V->Prop):Prop:=match a with
 | .int j x=>match b with
  | .int k y=>match xL op with
   | true=>aMX op j x y K
   | false=>j=k/\QZ op j x y K
  | _=>False
 | .str x=>match b with | .str y=>aHV op x y K | _=>False
 | .bool x=>match b with | .bool y=>Ic P t=true/\aEd op x y K | _=>False
 | a=>VZ P op t a b K
def aFz(big:Bool)(a b:V)(K:V->Prop):Prop:=match a with
 | .int j x=>match b with
  | .int _ y=>K (.int j (match big with | true=>max x y | false=>min x y))
  | _=>False
 | _=>False
inductive CT where
 | int (k:IntKind)
 | str
 | bool
inductive KSh where
 | one (c:CT)
 | many (l:List CT)
def Cu(P:Program)(t:TypeId):Option CT:=match P.underlying t with
 | some (.int k)=>some (.int k)
 | some .string=>some .str
 | some .bool=>some .bool
 | _=>none
def JB(P:Program):List Field->Option (List CT)
 | []=>some []
 | f::fs=>match Cu P f.type with
  | some c=>match JB P fs with
   | some l=>some (c::l)
   | none=>none
  | none=>none
def ZI(P:Program)(t:TypeId):Option KSh:=match Cu P t with
 | some c=>some (.one c)
 | none=>match MO P t with
  | some fs=>match JB P fs with
   | some l=>some (.many l)
   | none=>none
  | none=>none
def aFA:CT->V->Prop
 | .int k,.int j _=>j=k
 | .str,.str _=>True
 | .bool,.bool _=>True
 | _,_=>False
def UE:List CT->List V->Prop
 | [],[]=>True
 | c::l,v::vs=>aFA c v/\UE l vs
 | _,_=>False
def WA:KSh->V->Prop
 | .one c,v=>aFA c v
 | .many l,.agg cs=>UE l cs
 | _,_=>False
open Classical in
def Gy:List (V×V)->V->Option V
 | [],_=>none
 | e::es,a=>if a=e.1 then some e.2 else Gy es a
open Classical in
def Cv:List (V×V)->V->V->List (V×V)
 | [],a,x=>[(a,x)]
 | e::es,a,x=>if a=e.1 then(a,x)::es else e::Cv es a x
def aCH(P:Program)(op:BinOp)(t:TypeId)(a b:V)(K:V->Prop):Prop:=match ZI P t with
 | some (.many l)=>match a with
  | .agg x=>match b with
   | .agg y=>UE l x/\UE l y/\match op with
    | .eql=>(x=y->K (.bool true))/\(x≠y->K (.bool false))
    | .neq=>(x=y->K (.bool false))/\(x≠y->K (.bool true))
    | _=>False
   | _=>False
  | _=>False
 | _=>False
def Id(S:Hp)(K:KV):Prop:=∀i,S i=none->K (.sP i) (aM S i (.map []))
def Up(ok:Bool)(v:V)(is:Bool):V:=match ok with | true=> .tuple [v,.bool is] | false=>v
def ZJ(sh:KSh)(z:V)(ok:Bool)(m a:V)(S:Hp)(K:KV):Prop:=match m with
 | .sP i=>match S i with
  | some (.map es)=>WA sh a/\(∀e∈es,WA sh e.1)/\(∀v,Gy es a=some v->K (Up ok v true) S)/\(Gy es a=none->K (Up ok z false) S)
  | _=>False
 | _=>False
def Cw(sh:KSh)(m a x:V)(S:Hp)(k:Hp->Prop):Prop:=match m with
 | .sP i=>match S i with
  | some (.map es)=>WA sh a/\(∀e∈es,WA sh e.1)/\k (aM S i (.map (Cv es a x)))
  | _=>False
 | _=>False
def aHW(x:V)(S:Hp)(K:KV):Prop:=match x with
 | .sP i=>match S i with
  | some (.map es)=>K (.int .i64 (.ofNat es.length)) S
  | _=>False
 | _=>False
def Lp(r:V)(S:Hp)(K:KV):Prop:=match r with
 | .int _ _=>Id S K
 | _=>False
def Uq(x:V)(S:Hp)(K:KV):Prop:=match x with
 | .sP m=>match S m with
  | some (.map es)=>∀bs ck,bs.length=es.length->bs.Pairwise (· < ·)->(∀b∈bs,b<ck)->∀i,aM S m (.ZG es bs ck) i=none->K (.ptr i 0) (aM (aM S m (.ZG es bs ck)) i (.iter m ck [] ck))
  | _=>False
 | _=>False
def aCI(x:V)(S:Hp)(K:KV):Prop:=match x with
 | .ptr i 0=>match S i with
  | some (.iter m since seen last)=>match S m with
   | some (.ZG es bs ck)=>(∀b∈bs,b<since)/\since<=last/\
    ((∀b∈bs,b∈seen)->K (.tuple [.bool false]) (aM S m (.map es)))/\
    ∀(j:Nat) (e:V×V) (b:Nat),es[j]? =some e->bs[j]? =some b->¬b∈seen->K (.tuple [.bool true,e.1,e.2]) (aM S i (.iter m since (seen++[b]) ck))
   | _=>False
  | _=>False
 | _=>False
def Ur(x:V)(S:Hp)(K:KV):Prop:=match x with
 | .ptr i 0=>match S i with
  | some (.iter m _ seen last)=>match S m with
   | some (.ZG es bs ck)=>ck=last/\bs.Pairwise (· < ·)/\∃(j:Nat) (e:V×V) (b:Nat),es[j]? =some e/\bs[j]? =some b/\seen.getLast?=some b/\K (.tuple [e.1,e.2]) S
   | _=>False
  | _=>False
 | _=>False
def Lq(d:Nat)(o:Option V)(k:Nat->Prop):Prop:=match o with
 | none=>k d
 | some (.int _ (.ofNat n))=>k n
 | _=>False
def LM(len cap:Nat)(lo hi mx:Option V)(k:Nat->Nat->Nat->Prop):Prop:=Lq cap mx λm=>Lq len hi λh=>Lq 0 lo λl=>l<=h/\h<=m/\m<=cap/\k l h m
def aOZ(x:V)(lo hi:Option V)(K:V->Prop):Prop:=match x with
 | .str s=>LM s.length s.length lo hi none λl h _=>K (.str ((s.take h).drop l))
 | _=>False
def aCJ(len size:Nat)(x:V)(lo hi mx:Option V)(K:V->Prop):Prop:=match x with
 | .ptr i o=>LM len len lo hi mx λl h m=>K (.own i (if m=l then o else o+l*size) (h-l) (m-l))
 | _=>False
def Cy(el size:Nat)(x:V)(lo hi mx:Option V)(S:Hp)(K:V->Prop):Prop:=match x with
 | .own i o n c=>LM n c lo hi mx λl h m=>K (.own i (if m=l then o else o+l*size) (h-l) (m-l))
 | .list O cs n=>match mx with
  | some _=>LM n n lo hi mx λl h m=>l<m/\h*size<=cs.length/\K (.list (.cut O (l*size) (h-l) (m-l)) ((cs.drop (l*size)).take ((h-l)*size)) (h-l))
  | none=>False
 | .nil=>LM 0 0 lo hi mx λ_ _ _=>K .nil
 | .acc i n=>match mx with
  | none=>match S i with
   | some (.iX _ t n')=>n'=n/\t=el/\LM n n lo hi none λl h m=>(l<m->K (.oR i n (0+l*size) (h-l) (m-l)))/\(m=l->K (.emp i n))
   | _=>False
  | some _=>False
 | .oR i n o k c=>match mx with
  | none=>match S i with
   | some (.iX _ t n')=>n'=n/\t=el/\LM k c lo hi none λl h m=>(l<m->K (.oR i n (o+l*size) (h-l) (m-l)))/\(m=l->K (.emp i n))
   | _=>False
  | some _=>False
 | _=>False
def RB(zero:List Value)(x:V)(S:Hp)(k:Hp->Prop):Prop:=match x with
 | .nil=>k S
 | .own i o n _=>match n with
  | 0=>k S
  | n+1=>AD zero λz=>match S i with
   | some (.row vs t)=>o+(List.replicate (n+1) z).flatten.length<=vs.length/\k (aM S i (.row (aE o (List.replicate (n+1) z).flatten vs) t))
   | _=>False
 | .acc i q=>match q with
  | 0=>k S
  | n+1=>AD zero λz=>match S i with
   | some (.iX vs t m)=>m=q/\(List.replicate (n+1) z).flatten.length<=vs.length/\k (aM S i (.iX (aE 0 (List.replicate (n+1) z).flatten vs) t m))
   | _=>False
 | .oR i q o n _=>match n with
  | 0=>k S
  | n+1=>AD zero λz=>match S i with
   | some (.iX vs t m)=>m=q/\o+(List.replicate (n+1) z).flatten.length<=vs.length/\k (aM S i (.iX (aE o (List.replicate (n+1) z).flatten vs) t m))
   | _=>False
 | _=>False
def aHX(size:Nat)(d x:V)(S:Hp)(K:KV):Prop:=TF size x S λm new=>match d with
 | .own i o n _=>m<=n/\match m with
  | 0=>K (.int .i64 (.ofNat 0)) S
  | q+1=>new.all pN=true/\match S i with
   | some (.row vs t)=>o+new.length<=vs.length/\K (.int .i64 (.ofNat (q+1))) (aM S i (.row (aE o new vs) t))
   | _=>False
 | _=>False
def vMk(el:TypeId)(bytes:Nat)(zero:List Value)(l c:V)(S:Hp)(K:KV):Prop:=match l with
 | .int _ (.ofNat l)=>match c with
  | .int _ (.ofNat c)=>l<=c/\bytes*c<=1099511627776/\c<=65536/\AD zero λz=>aHT (List.replicate c z).flatten el S λi S=>K (.own i 0 l c) S
  | _=>False
 | _=>False
def JC(op:UnOp)(a:V)(K:V->Prop):Prop:=match op with
 | .not=>match a with | .bool b=>K (.bool (!b)) | _=>False
 | .neg=>match a with | .int k n=>K (.int k (lC k (Int.sub 0 n))) | _=>False
 | .xor=>match a with | .int k n=>K (.int k (k.wrap (BitVec.ofInt k.bits (if k.signed then-1 else k.max) ^^^ BitVec.ofInt k.bits n).toNat)) | _=>False
 | _=>False
section
variable{α β:Type}
abbrev HH(n:Nat)(z:β)(s:Nat->β):β:=Nat.rec (motive:=λ_=>β) z (λp _=>s p) n
abbrev aH1(o:Option α)(z:β)(s:α->β):β:=Option.rec (motive:=λ_=>β) z s o
abbrev aEg(z:β)(s:Nat->β->β)(n:Nat):β:=Nat.rec (motive:=λ_=>β) z s n
abbrev JE(z:β)(s:α->List α->β->β)(l:List α):β:=List.rec (motive:=λ_=>β) z s l
abbrev aH2(z:β)(s:Option α->Tr α->Tr α->β->β->β)(t:Tr α):β:=Tr.rec (motive:=λ_=>β) z s t
abbrev aMY(t:Tr α)(z:β)(s:Option α->Tr α->Tr α->β):β:=Tr.rec (motive:=λ_=>β) z (λv l r _ _=>s v l r) t
end
section
variable{α:Type}
abbrev aFF(t:Tr α)(n:Nat)(k:α->Prop):Prop:=
 aH2 (β:=Nat->Prop) (λ_=>False) (λv _ _ gl gr n=>HH n (aH1 v False k) λp=>HH (Nat.mod p 2) (gl (Nat.div p 2)) λ_=>gr (Nat.div p 2)) t n
abbrev aFG(x:α)(f:Nat):Tr α->Nat->(Tr α->Prop)->Prop:=
 aEg (β:=Tr α->Nat->(Tr α->Prop)->Prop) (λt _ k=>k t)
  (λ_ ih t n k=>aMY t
   (HH n (k (.node (some x) .leaf .leaf)) λp=>HH (Nat.mod p 2) (ih .leaf (Nat.div p 2) λc=>k (.node none c .leaf)) λ_=>ih .leaf (Nat.div p 2) λc=>k (.node none .leaf c))
   (λv l r=>HH n (k (.node (some x) l r)) λp=>HH (Nat.mod p 2) (ih l (Nat.div p 2) λc=>k (.node v c r)) λ_=>ih r (Nat.div p 2) λc=>k (.node v l c))) f
abbrev aFH(t:Tr α)(n:Nat)(k:Prop):Prop:=
 aH2 (β:=Nat->Prop) (λ_=>k) (λv _ _ gl gr n=>HH n (aH1 v k λ_=>False) λp=>HH (Nat.mod p 2) (gl (Nat.div p 2)) λ_=>gr (Nat.div p 2)) t n
abbrev aH3(t:Tr α)(n:Nat)(k:Tr α->Prop):Prop:=
 aH2 (β:=Nat->(Tr α->Prop)->Prop) (λ_ k=>k .leaf) (λv l r dl dr n k=>HH n (k (.node none l r)) λp=>HH (Nat.mod p 2) (dl (Nat.div p 2) λc=>k (.node v c r)) λ_=>dr (Nat.div p 2) λc=>k (.node v l c)) t n k
end
structure Uv where
 t:Tr V
 n:Nat
structure VA where
 tmps:Uv
 g:Nat
abbrev Oq(T:Uv)(i:Nat)(k:V->Prop):Prop:=aFF T.t i k
abbrev UF(v:V)(T:Uv)(i:Nat)(k:Uv->Prop):Prop:=match T with
 | ⟨t,n⟩=>match Nat.blt i n with
  | true=>aFG v (Nat.succ i) t i λt=>k ⟨t,n⟩
  | false=>False
abbrev Lw(A:VA)(d:Tmp)(v:V)(k:VA->Prop):Prop:=match A with
 | ⟨T,g⟩=>UF v T d λT=>k ⟨T,g⟩
abbrev aO1(n:Nat)(args:List V)(k:Uv->Prop):Prop:=
 JE (β:=Nat->Uv->Prop) (λ_ T=>k T) (λa _ ih i T=>UF a T i λT=>ih (Nat.succ i) T) args 0 ⟨.leaf,n⟩
def ofC(v:Value):Option V:=match v with
 | .agg ⟨cs⟩=>match ED cs with | some l=>some (.agg l) | none=>none
 | v=>ofV v
structure EvV where
 f:VA->(V->Prop)->Prop
def wE(x:Operand):EvV:=match x with
 | .tmp t=>⟨λA k=>Oq A.tmps t k⟩
 | .const v=>match ofC v with | some d=>⟨λ_ k=>k d⟩ | none=>⟨λ_ _=>False⟩
 | .global _=>⟨λ_ _=>False⟩
 | .func f=>⟨λ_ k=>k (.func f [] [])⟩
structure aO2 where
 f:VA->(List V->Prop)->Prop
def aFI(xs:List Operand):aO2:=JE (β:=aO2) ⟨λ_ k=>k []⟩ (λx _ ih=>⟨λA k=>(wE x).f A λv=>ih.f A λvs=>k (v::vs)⟩) xs
structure PtV where
 f:VA->(List (Nat×Nat×V)->Prop)->Prop
def Dc(place:Nat->Option (Nat×Nat))(ps:List (Nat×Operand)):PtV:=
 JE (β:=PtV) ⟨λ_ k=>k []⟩ (λp _ ih=>match place p.1 with
  | some (off,size)=>⟨λA k=>(wE p.2).f A λv=>ih.f A λl=>k ((off,size,v)::l)⟩
  | none=>⟨λ_ _=>False⟩) ps
inductive Au(S' S:Hp):V->Dt->Prop
 | int {k:IntKind} {z:Int}:Au S' S (.int k z) (.int k z)
 | bool {b:Bool}:Au S' S (.bool b) (.bool b)
 | str {l:List UInt8}:Au S' S (.str l) (.str l)
 | list {O:Tag} {cs:List Dt} {n:Nat}:Au S' S (.list O cs n) (.list cs n)
 | nil:Au S' S .nil (.list [] 0)
 | acc {i n:Nat} {vs:List V} {t:TypeId} {cs:List Dt} (h:S i=some (.iX vs t n)) (hn:S' i=none) (hl:vs.length=cs.length) (hr:∀(j:Nat) (v:V) (d:Dt),vs[j]? =some v->cs[j]? =some d->Au S' S v d):Au S' S (.acc i n) (.list cs n)
 | oR {i n o k c:Nat} {vs:List V} {t:TypeId} {cs:List Dt} (h:S i=some (.iX vs t n)) (hn:S' i=none) (hc:k<=c) (hl:o+cs.length<=vs.length) (hr:∀(j:Nat) (v:V) (d:Dt),vs[o+j]? =some v->cs[j]? =some d->Au S' S v d):Au S' S (.oR i n o k c) (.list cs k)
 | own {i o n c:Nat} {vs:List V} {t:TypeId} {cs:List Dt} (h:S i=some (.row vs t)) (hn:S' i=none) (hc:n<=c) (hl:o+cs.length<=vs.length) (hr:∀(j:Nat) (v:V) (d:Dt),vs[o+j]? =some v->cs[j]? =some d->Au S' S v d):Au S' S (.own i o n c) (.list cs n)
inductive Fz1(S' S:Hp)(O:Tag):V->V->Prop
 | keep (v:V):Fz1 S' S O v v
 | dat {v:V} {d:Dt} (h:Au S' S v d):Fz1 S' S O v (T O d)
def FzL(S' S:Hp)(O:Nat->Tag)(vs us:List V):Prop:=us.length=vs.length/\∀(j:Nat) (v u:V),vs[j]? =some v->us[j]? =some u->Fz1 S' S (O j) v u
inductive Fz(S' S:Hp)(O:Nat->Tag):V->V->Prop
 | one {v u:V} (h:Fz1 S' S (O 0) v u):Fz S' S O v u
 | agg {vs us:List V} (h:FzL S' S O vs us):Fz S' S O (.agg vs) (.agg us)
 | tup {vs us:List V} (h:FzL S' S O vs us):Fz S' S O (.tuple vs) (.tuple us)
 | aQT {as bs vs us:List V} (hl:bs.length=as.length) (h:FzL S' S (λk=>O (k+(vs.length+1))) (as++vs) (bs++us)):Fz S' S O (.tuple (.agg as::vs)) (.tuple (.agg bs::us))
def aQ(v:V)(S:Hp)(K:KV):Prop:=∃(S':Hp) (u:(Nat->Tag)->V),cP S' S/\(∀O,Fz S' S O v (u O))/\∀O,K (u O) S'
def fG(S:Hp)(k:Hp->Prop):Prop:=∃S',cP S' S/\k S'
structure VE where
 C:aLK
 R:Nat->List V->Hp->KV->Prop
 most:Nat
def VE.call(E:VE)(c:FuncId)(args:List V)(S:Hp)(K:KV):Prop:=∃(S':Hp) (us:(Nat->Tag)->List V),cP S' S/\(∀O,FzL S' S O args (us O))/\∀O,E.C c (us O) S' K
def fK(E:VE)(f:V)(args:List V)(S:Hp)(K:KV):Prop:=match f with
 | .func g a c=>E.call g (a++args++c) S K
 | .yield l=>E.R l args S K
 | _=>False
def Db(E:VE)(f:V)(ls:List Nat)(vs:List V)(n:Nat)(ps:List Tmp)(as bo:Code)(S:Hp)(k:Option Code->Hp->Prop):Prop:=match f with
 | .func g a c=>∀l,S l=none->E.call g (a++[.yield l]++c) (aM S l (.loop ls vs n ps as bo .ready none)) λ_ S=>aAu l S k
 | _=>False
structure OpV where
 f:VE->VA->Hp->KV->Prop
def AY:OpV:=⟨λ_ _ _ _=>False⟩
def aH4(P:Program)(c:Call):OpV:=
 match c.callee with
 | .builtin .len=>match c.argTypes.toList,c.args.toList with
  | [t],[a]=>match isSlice P t,P.underlying t with
   | some _,_=>⟨λ_ A S K=>(wE a).f A λv=>dC v λv=>K v S⟩
   | none,some .string=>⟨λ_ A S K=>(wE a).f A λv=>JA v λv=>K v S⟩
   | none,some (.map _ _)=>⟨λ_ A S K=>(wE a).f A λv=>aHW v S K⟩
   | _,_=>AY
  | _,_=>AY
 | .builtin .append=>match c.argTypes.toList,c.args.toList with
  | [sT,xT],[a,b]=>match isSlice P sT,Jh (P.underlying xT)with
   | some el,true=>match P.info? el with
    | some info=>match info.size,info.zero with
     | n+1,some z=>match Nat.beq z.cells.size (n+1),Nat.beq ((bP P el).getD 0) (n+1)with
      | true,true=>⟨λ_ A S K=>(wE a).f A λa=>(wE b).f A λb=>qG el (n+1) info.bytes a b S K⟩
      | _,_=>AY
     | _,_=>AY
    | none=>AY
   | _,_=>AY
  | _,_=>AY
 | .builtin .min=>match c.args.toList with
  | [a,b]=>⟨λ_ A S K=>(wE a).f A λa=>(wE b).f A λb=>aFz false a b λv=>K v S⟩
  | _=>AY
 | .builtin .max=>match c.args.toList with
  | [a,b]=>⟨λ_ A S K=>(wE a).f A λa=>(wE b).f A λb=>aFz true a b λv=>K v S⟩
  | _=>AY
 | .builtin .clear=>match c.argTypes.toList,c.args.toList with
  | [t],[a]=>match isSlice P t with
   | some el=>match bP P el,tX P el with
    | some (m+1),some zero=>match Nat.beq zero.length (m+1),rD bE zero with
     | true,true=>⟨λ_ A S K=>(wE a).f A λa=>RB zero a S λS=>K MZ S⟩
     | _,_=>AY
    | _,_=>AY
   | none=>AY
  | _,_=>AY
 | .builtin .copy=>match c.argTypes.toList,c.args.toList with
  | dT::_,[a,b]=>match isSlice P dT with
   | some el=>match bP P el with
    | some (m+1)=>⟨λ_ A S K=>(wE a).f A λa=>(wE b).f A λb=>aHX (m+1) a b S K⟩
    | _=>AY
   | none=>AY
  | _,_=>AY
 | .builtin _=>AY
 | .value f=>⟨λE A S K=>(aFI c.args.toList).f A λargs=>(wE f).f A λf=>fK E f args S K⟩
 | .invoke r m=>⟨λE A S K=>(aFI c.args.toList).f A λargs=>(wE r).f A λv=>aOX P E.call v m args S K⟩
structure OvO where
 f:VA->(Option V->Prop)->Prop
def evO(x:Option Operand):OvO:=match x with
 | none=>⟨λ_ k=>k none⟩
 | some x=>⟨λA k=>(wE x).f A λv=>k (some v)⟩
def aLL(mx hi:Option Operand):Bool:=match mx,hi with | some _,none=>false | _,_=>true
def aCL(P:Program)(t:TypeId)(x:Operand)(lo hi mx:Option Operand):OpV:=
 match isSlice P t with
  | some el=>match bP P el with
   | some size=>⟨λ_ A S K=>(wE x).f A λx=>(evO lo).f A λlo=>(evO hi).f A λhi=>(evO mx).f A λmx=>Cy el size x lo hi mx S λv=>K v S⟩
   | none=>AY
  | none=>match P.underlying t with
   | some .string=>match mx with
    | none=>⟨λ_ A S K=>(wE x).f A λx=>(evO lo).f A λlo=>(evO hi).f A λhi=>aOZ x lo hi λv=>K v S⟩
    | some _=>AY
   | some (.array len el)=>match bP P el with
    | some size=>⟨λ_ A S K=>(wE x).f A λx=>(evO lo).f A λlo=>(evO hi).f A λhi=>(evO mx).f A λmx=>aCJ len size x lo hi mx λv=>K v S⟩
    | none=>AY
   | _=>AY
def WD(P:Program)(t:TypeId)(l c:Operand):OpV:=
 match isSlice P t with
  | some el=>match P.info? el,tX P el with
   | some info,some zero=>match Nat.beq zero.length info.size,info.size,rD bE zero with
    | true,_+1,true=>⟨λ_ A S K=>(wE l).f A λl=>(wE c).f A λc=>vMk el info.bytes zero l c S K⟩
    | _,_,_=>AY
   | _,_=>AY
  | none=>AY
def Uw(P:Program)(t:TypeId)(x ix:Operand)(ok:Bool):OpV:=match EA P t with
 | some (kt,et)=>match ZI P kt,zeroV P et with
  | some sh,some z=>match ofC z with
   | some z=>⟨λ_ A S K=>(wE x).f A λx=>(wE ix).f A λix=>ZJ sh z ok x ix S K⟩
   | none=>AY
  | _,_=>AY
 | none=>AY
def Ux(P:Program)(t:TypeId)(m a x:Operand):OpV:=match EA P t with
 | some (kt,_)=>match ZI P kt with
  | some sh=>⟨λ_ A S K=>(wE m).f A λm=>(wE a).f A λa=>(wE x).f A λx=>Cw sh m a x S λS=>K MZ S⟩
  | none=>AY
 | none=>AY
def aAy(P:Program)(t:TypeId):Bool:=match P.underlying t with | some (.interface _)=>false | some _=>true | none=>false
def opV(P:Program)(o:Oper):OpV:=
 match o.op with
 | .move x=>⟨λ_ A S K=>(wE x).f A λv=>K v S⟩
 | .assign x=>⟨λ_ A S K=>(wE x).f A λv=>K v S⟩
 | .pick c a b=>⟨λE A S K=>(wE c).f A λc=>(wE a).f A λa=>(wE b).f A λb=>fY E.most (QY c a b λv=>K v S)⟩
 | .alloc t=>match tX P t with
  | some z=>match rD bE z with
   | true=>⟨λ_ _ S K=>eI z t S K⟩
   | false=>AY
  | none=>AY
 | .box t x=>⟨λ_ A S K=>(wE x).f A λv=>pO t v S K⟩
 | .build t ps=>match tX P t,P.underlying t with
  | some zero,some (.struct fields)=>match placesOf P fields.toList with
   | some pl=>match rD bE zero,ps.toList.all λp=>(pl[p.1]?).isSome with
    | true,true=>⟨λ_ A S K=>(Dc (pl[·]?) ps.toList).f A λl=>fX zero l λv=>K v S⟩
    | _,_=>AY
   | none=>AY
  | some zero,some (.array _ elem)=>match bP P elem with
   | some size=>match rD bE zero with
    | true=>⟨λ_ A S K=>(Dc (λi=>some (i*size,size)) ps.toList).f A λl=>fX zero l λv=>K v S⟩
    | false=>AY
   | none=>AY
  | _,_=>AY
 | .buildSlice t len ps=>match isSlice P t with
  | some elem=>match bP P elem,tX P elem with
   | some (size+1),some zero=>match Nat.ble (len*(size+1)) 16777216,Nat.beq zero.length (size+1)with
    | true,true=>match rD bE zero with
     | true=>⟨λ_ A S K=>(Dc (λi=>some (i*(size+1),size+1)) ps.toList).f A λl=>dN elem len zero l S K⟩
     | false=>AY
    | _,_=>AY
   | _,_=>AY
  | none=>AY
 | .load t a=>match uR P t,bP P t with
  | some false,_=>⟨λ_ A S K=>(wE a).f A λa=>bJ a S K⟩
  | some true,some (n+1)=>⟨λ_ A S K=>(wE a).f A λa=>cU (n+1) a S K⟩
  | _,_=>AY
 | .store t a x=>match bP P t with
  | some n=>⟨λ_ A S K=>(wE a).f A λa=>(wE x).f A λx=>mE n a x S λS=>K MZ S⟩
  | none=>AY
 | .nilCheck x=>⟨λ_ A S K=>(wE x).f A λv=>jI P v λv=>K v S⟩
 | .binOp op t x y _=>match uR P t with
  | some true=>⟨λ_ A S K=>(wE x).f A λa=>(wE y).f A λb=>aCH P op t a b λv=>K v S⟩
  | _=>⟨λ_ A S K=>(wE x).f A λa=>(wE y).f A λb=>aD P op t a b λv=>K v S⟩
 | .unOp op _ x=>⟨λ_ A S K=>(wE x).f A λa=>JC op a λv=>K v S⟩
 | .convert s d x=>match P.underlying s,P.underlying d with
  | some (.int _),some (.int k)=>⟨λ_ A S K=>(wE x).f A λa=>Lo k a λv=>K v S⟩
  | _,_=>AY
 | .makeInterface t x=>match aAy P t with
  | true=>⟨λ_ A S K=>(wE x).f A λv=>K (.iface t v) S⟩
  | false=>AY
 | .makeFunc fn first cap=>match fn with
  | .func f=>⟨λ_ A S K=>(aFI first.toList).f A λa=>(aFI cap.toList).f A λb=>K (.func f a b) S⟩
  | .method s=>match first.toList,cap.toList with
   | [x],[]=>⟨λ_ A S K=>(wE x).f A λv=>K (.GS s v) S⟩
   | _,_=>AY
  | _=>AY
 | .fieldAddr s x f=>match zO P s f with
  | some fd=>match bP P fd.type with
   | some (_+1)=>⟨λ_ A S K=>(wE x).f A λx=>bF fd.offset x λv=>K v S⟩
   | _=>AY
  | none=>AY
 | .field t x f=>match zO P t f with
  | some fd=>match uR P fd.type,bP P fd.type with
   | some false,_=>⟨λ_ A S K=>(wE x).f A λx=>aCE fd.offset x λv=>K v S⟩
   | some true,some n=>⟨λ_ A S K=>(wE x).f A λx=>Uo fd.offset n x λv=>K v S⟩
   | _,_=>AY
  | none=>AY
 | .indexAddr t x ix=>match isSlice P t with
  | some el=>match bP P el with
   | some n=>⟨λ_ A S K=>(wE x).f A λx=>(wE ix).f A λix=>jM n x ix λv=>K v S⟩
   | none=>AY
  | none=>match aKu P t with
   | some (len,n)=>⟨λ_ A S K=>(wE x).f A λx=>(wE ix).f A λix=>aEa len n x ix λv=>K v S⟩
   | none=>AY
 | .index t x ix=>match P.underlying t with
  | some .string=>⟨λ_ A S K=>(wE x).f A λx=>(wE ix).f A λix=>aCF x ix λv=>K v S⟩
  | _=>AY
 | .slice t x lo hi mx=>match aLL mx hi with
  | true=>aCL P t x lo hi mx
  | false=>AY
 | .makeSlice t l c=>WD P t l c
 | .makeMap _ none=>⟨λ_ _ S K=>Id S K⟩
 | .makeMap t (some r)=>match EA P t with
  | some _=>⟨λ_ A S K=>(wE r).f A λr=>Lp r S K⟩
  | none=>AY
 | .range t x=>match EA P t with
  | some _=>⟨λ_ A S K=>(wE x).f A λx=>Uq x S K⟩
  | none=>AY
 | .next it false=>⟨λ_ A S K=>(wE it).f A λx=>aCI x S K⟩
 | .entry it=>⟨λ_ A S K=>(wE it).f A λx=>Ur x S K⟩
 | .lookup t x ix ok=>Uw P t x ix ok
 | .mapUpdate t m k x=>Ux P t m k x
 | .insert t m k x=>Ux P t m k x
 | .extract t i=>⟨λ_ A S K=>(wE t).f A λv=>nF i v λv=>K v S⟩
 | .call c=>aH4 P c
 | _=>AY
abbrev KSV:=VA->Hp->Prop
structure StV where
 f:VE->VA->Hp->KSV->Prop
structure ChV where
 f:VE->VA->Hp->Prop->Prop
def aLM(P:Program)(o:Oper):StV:=
 match o.dst with
 | some d=>⟨λE A S k=>(opV P o).f E A S λv S=>Lw A d v λA=>k A S⟩
 | none=>⟨λE A S k=>(opV P o).f E A S λ_ S=>k A S⟩
def doV(P:Program)(ops:Array Oper)(o:Oper):StV:=
 match o.guard with
 | none=>aLM P o
 | some (j,w)=>match ops[j]? with
  | some o'=>match o'.dst with
   | some g=>match o.dst with
    | some d=>⟨λE A S k=>Oq A.tmps g λb=>fY E.most (eL w b (λk=>(opV P o).f E A S k) S λv S=>Lw A d v λA=>k A S)⟩
    | none=>⟨λE A S k=>Oq A.tmps g λb=>fY E.most (eL w b (λk=>(opV P o).f E A S k) S λ_ S=>k A S)⟩
   | none=>⟨λ_ _ _ _=>False⟩
  | none=>⟨λ_ _ _ _=>False⟩
def opsV(P:Program)(ops:Array Oper)(l:List Oper):StV:=
 JE (β:=StV) ⟨λ_ A S k=>k A S⟩ (λo _ ih=>⟨λE A S k=>(doV P ops o).f E A S λA S=>ih.f E A S k⟩) l
def TG(P:Program)(ops:Array Oper)(l:List Nat):ChV:=
 JE (β:=ChV) ⟨λ_ _ _ k=>k⟩ (λi _ ih=>match ops[i]? with
  | some o=>match o.dst with
   | some d=>match o.guard with
    | none=>⟨λE A S k=>Oq A.tmps d λu=>(opV P o).f E A S λv _=>aT v u (ih.f E A S k)⟩
    | some (j,w)=>match ops[j]? with
     | some o'=>match o'.dst with
      | some g=>⟨λE A S k=>Oq A.tmps d λu=>Oq A.tmps g λb=>fY E.most (AE w b u (λk=>(opV P o).f E A S λv _=>aT v u k) (ih.f E A S k))⟩
      | none=>⟨λ_ _ _ _=>False⟩
     | none=>⟨λ_ _ _ _=>False⟩
   | none=>⟨λ_ _ _ _=>False⟩
  | none=>⟨λ_ _ _ _=>False⟩) l
def aAz(P:Program)(ops:Array Oper)(i:Nat)(o:Oper):OpV:=match eZ P ops i with
 | none=>opV P o
 | some _=>AY
def OF(P:Program)(ops:Array Oper)(l:List Nat):StV:=
 JE (β:=StV) ⟨λ_ A S k=>k A S⟩ (λi _ ih=>match ops[i]? with
  | some o=>match o.dst with
   | some d=>⟨λE A S k=>(aAz P ops i o).f E A S λv S=>Lw A d v λA=>ih.f E A S k⟩
   | none=>⟨λE A S k=>(aAz P ops i o).f E A S λ_ S=>ih.f E A S k⟩
  | none=>⟨λ_ _ _ _=>False⟩) l
abbrev aMZ(A:VA)(o:Oper)(k:Prop):Prop:=match o.dst with
 | some d=>aFH A.tmps.t d k
 | none=>False
def Uy(P:Program)(ops:Array Oper)(l:List (Nat×List Nat)):ChV:=
 JE (β:=ChV) ⟨λ_ _ _ k=>k⟩ (λp _ ih=>match ops[p.1]? with
  | some o=>⟨λE A S k=>aMZ A o (((OF P ops p.2).f E A S λA S=>(aAz P ops p.1 o).f E A S λ_ _=>True)/\ih.f E A S k)⟩
  | none=>⟨λ_ _ _ _=>False⟩) l
def JF(P:Program)(ops:Array Oper)(l:List wD):StV:=
 JE (β:=StV) ⟨λ_ _ _ _=>False⟩ (λs _ ih=>match s with
  | .take i=>match ops[i]? with
   | some o=>⟨λE A S k=>(doV P ops o).f E A S λA S=>ih.f E A S k⟩
   | none=>⟨λ_ _ _ _=>False⟩
  | .Ps yC mP D r BX=>match ops[r]? with
   | some o=>⟨λE A S k=>(TG P ops yC).f E A S ((Uy P ops mP).f E A S ((OF P ops D).f E A S λA S=>(doV P ops o).f E A S λA S=>(TG P ops BX).f E A S (ih.f E A S k)))⟩
   | none=>⟨λ_ _ _ _=>False⟩
  | .fin yC mP D=>⟨λE A S k=>(TG P ops yC).f E A S ((Uy P ops mP).f E A S ((OF P ops D).f E A S k))⟩) l
abbrev aAA(ops:Array Oper)(l:List Nat)(A:VA)(k:VA->Prop):Prop:=
 JE (β:=VA->Prop) k (λi _ ih A=>match ops[i]? with
  | some o=>match o.dst with
   | some d=>match A with | ⟨⟨t,n⟩,g⟩=>aH3 t d λt=>ih ⟨⟨t,n⟩,g⟩
   | none=>False
  | none=>False) l A
def HI(P:Program)(ops:Array Oper)(l:List wD):StV:=
 JE (β:=StV) ⟨λ_ A S k=>k A S⟩ (λs _ ih=>match s with
  | .take i=>match ops[i]? with
   | some o=>⟨λE A S k=>(doV P ops o).f E A S λA S=>ih.f E A S k⟩
   | none=>⟨λ_ _ _ _=>False⟩
  | .Ps yC mP D r BX=>match ops[r]? with
   | some o=>⟨λE A S k=>(TG P ops yC).f E A S ((Uy P ops mP).f E A S ((OF P ops D).f E A S λA S=>(doV P ops o).f E A S λA S=>(TG P ops BX).f E A S (ih.f E A S k)))⟩
   | none=>⟨λ_ _ _ _=>False⟩
  | .fin _ _ _=>⟨λ_ _ _ _=>False⟩) l
def aEh(w:Bool)(v:V)(k:Prop):Prop:=match v with
 | .bool b=>match w,b with | true,true=>k | false,false=>k | _,_=>False
 | _=>False
def aCM(P:Program)(p:QN):Array Oper->StV:=
 QN.rec (motive:=λ_=>Array Oper->StV) (λl ops=>JF P ops l) (λl g t b _ ih ops=>⟨λE A S k=>(HI P ops l).f E A S λA S=>Oq A.tmps t λv=>aEh b v ((ih (eW ops g b)).f E A S k)⟩) p
def aAB(P:Program)(ops:Array Oper)(draw:Bool):StV:=
 match draw with
 | true=>match YJ P ops with
  | some l=>match LG l with
   | []=>JF P ops l
   | ls=>⟨λE A S k=>aAA ops ls A λA=>(JF P ops l).f E A S k⟩
  | none=>match GV ops with
   | true=>match YN P (ops.size+1) ops ⟨List.replicate ops.size false⟩ []with
    | some p=>⟨λE A S k=>aAA ops (Tt p) A λA=>(aCM P p ops).f E A S k⟩
    | none=>⟨λ_ _ _ _=>False⟩
   | false=>⟨λ_ _ _ _=>False⟩
 | false=>opsV P ops ops.toList
abbrev CV:=wB->VA->Hp->Prop
structure CdV where
 f:VE->VA->Hp->CV->Prop
abbrev HJ(l:List Nat)(A:VA)(k:List V->Prop):Prop:=
 JE (β:=(List V->Prop)->Prop) (λk=>k []) (λi _ ih k=>Oq A.tmps i λv=>ih λvs=>k (v::vs)) l k
abbrev EE(l:List Nat)(vs:List V)(nt g:Nat)(k:VA->Prop):Prop:=
 JE (β:=List V->Uv->Prop) (λ_ T=>k ⟨T,g⟩) (λi _ ih vs T=>match vs with | v::vs=>UF v T i λT=>ih vs T | []=>False) l vs ⟨.leaf,nt⟩
abbrev LpV:=VE->List V->Nat->Hp->(wB->List V->Nat->Hp->Prop)->Prop
section
variable(P:Program)(tb:pR)(r:Option Nat)
abbrev Uz(a:Code)(ih:List V->Nat->Hp->Prop)(K:wB->List V->Nat->Hp->Prop):CV:=λe A S=>match e with
 | .normal=>HJ (tQ tb a) A λvs=>ih vs A.tmps.n S
 | e=>HJ (YV tb a e) A λvs=>K e vs A.tmps.n S
def JG(a:Code)(body:CdV)(E:VE)(K:wB->List V->Nat->Hp->Prop):Nat->List V->Nat->Hp->Prop:=
 aEg (β:=List V->Nat->Hp->Prop) (λ_ _ _=>False) (λ_ ih vs n S=>fG S λS=>EE (tQ tb a) vs n P.globals.size λA=>body.f E A S (Uz tb a ih K))
def aH5(a:Code)(body:CdV):LpV:=λE vs n S K=>JG P tb a body E K E.most vs n S
abbrev aAC(a:Code)(K:CV):wB->List V->Nat->Hp->Prop:=λe vs n S=>EE (YV tb a e) vs n P.globals.size λA=>K e A S
def aO3(a:Code)(lp:LpV):CdV:=⟨λE A S K=>HJ (tQ tb a) A λvs=>lp E vs A.tmps.n S (aAC P tb a K)⟩
def aAD(l:List Nat)(b:CdV)(E:VE)(K:CV)(vs:List V)(n:Nat)(S:Hp):Prop:=HH E.most False λ_=>fG S λS=>EE l vs n P.globals.size λA=>b.f E A S K
abbrev ZK(j:Option (List Nat))(b:CdV)(E:VE)(K:CV):CV:=λe A S=>match e with
 | .normal=>match j with
  | none=>b.f E A S K
  | some l=>HJ l A λvs=>aAD P l b E K vs A.tmps.n S
 | e=>K e A S
abbrev Lx(id:Nat)(K:CV):CV:=λe A S=>match e with
 | .exit i=>aEc i id (K .normal A S) (K (.exit i) A S)
 | e=>K e A S
def Va(a:Code):List Nat:=match qF a with | some i=>(tb.loop (1000000+i)).1 | none=>[]
def rOk(r:Option Nat)(S:Hp)(p:Prop):Prop:=match r with | none=>p | some l=>Hy l S p
def Vb(f:Operand)(ps:Array Tmp)(as bo:Code):CdV:=⟨λE A S K=>(wE f).f A λf=>HJ (Va tb bo) A λvs=>rOk r S (Db E f (Va tb bo) vs A.tmps.n ps.toList as bo S λpe S=>Fh pe (K .normal A S) (K .ret A S) λid=>K (.exit id) A S)⟩
def lO(lp:Code->LpV):Code->CdV
 | .skip=>⟨λ_ A S K=>K .normal A S⟩
 | .region _ ops draw=>⟨λE A S K=>(aAB P ops draw).f E A S λA S=>K .normal A S⟩
 | .seq a b=>⟨λE A S K=>(lO lp a).f E A S (ZK P (nQ tb b) (lO lp b) E K)⟩
 | .cond c a b=>⟨λE A S K=>(wE c).f A λv=>iQ v ((lO lp a).f E A S K) ((lO lp b).f E A S K)⟩
 | .block id a=>⟨λE A S K=>(lO lp a).f E A S (Lx id K)⟩
 | .loop a=>aO3 P tb a (lp a)
 | .scope a=>lO lp a
 | .rangeFunc f ps as bo=>Vb tb r f ps as bo
 | .exit id=>⟨λ_ A S K=>K (.exit id) A S⟩
 | .label _=>⟨λ_ A S K=>K .normal A S⟩
 | .ret=>⟨λ_ A S K=>K .ret A S⟩
 | _=>⟨λ_ _ _ _=>False⟩
def EG:Nat->Code->LpV
 | 0=>λ_ _ _ _ _ _=>False
 | n+1=>λa=>aH5 P tb a (lO P tb r (EG n) a)
end
section
variable(P:Program)(tb:FuncId->pR)
abbrev HM(rs:List ResultVar)(A:VA)(S:Hp)(k:List V->Prop):Prop:=
 JE (β:=(List V->Prop)->Prop) (λk=>k []) (λx _ ih k=>match x with
  | .tmp t=>Oq A.tmps t λv=>ih λvs=>k (v::vs)
  | .cell a t=>match uR P t,bP P t with
   | some false,_=>Oq A.tmps a λa=>bJ a S λv _=>ih λvs=>k (v::vs)
   | some true,some (n+1)=>Oq A.tmps a λa=>cU (n+1) a S λv _=>ih λvs=>k (v::vs)
   | _,_=>False) rs k
abbrev Or(fn:Func)(K:KV):CV:=λe A S=>match e with
 | .exit _=>False
 | _=>HM P fn.results.toList A S λvs=>match vs with | [v]=>aQ v S K | vs=>aQ (.tuple vs) S K
def nV(f:FuncId)(E:VE)(args:List V)(S:Hp)(K:KV):Prop:=
 match P.funcs[f]? with
 | some fn=>match fn.body with
  | some c=>aO1 fn.ntmps args λts=>(lO P (tb f) none (EG P (tb f) none tE) c).f E ⟨ts,P.globals.size⟩ S (Or P fn K)
  | none=>False
 | none=>False
abbrev aO4(l:Nat)(K:KV):CV:=λe _ S=>match e with
 | .normal=>UD l .ready none true S K
 | .ret=>UD l .done (some .ret) false S K
 | .exit id=>UD l .done (some (.exit id)) false S K
abbrev aM0(n l:Nat)(bo:Code)(E:VE)(K:KV):CV:=λe A S=>match e with
 | .normal=>Qh l S λS=>(lO P (tb (Cm n bo)) (some l) (EG P (tb (Cm n bo)) (some l) tE) bo).f E A S (aO4 l K)
 | _=>False
abbrev aH6(ps:List Tmp)(args:List V)(T:Uv)(k:Uv->Prop):Prop:=
 JE (β:=List V->Uv->Prop) (λas T=>match as with | []=>k T | _=>False) (λp _ ih as T=>match as with | a::as=>UF a T p λT=>ih as T | []=>False) ps args T
def Us(E:VE)(n:Nat)(ps:List Tmp)(as bo:Code)(l:Nat)(vs args:List V)(S:Hp)(K:KV):Prop:=
 EE (Qb tb n bo) vs n P.globals.size λA=>aH6 ps args A.tmps λT=>(lO P (tb (Cm n bo)) (some l) (EG P (tb (Cm n bo)) (some l) tE) as).f E ⟨T,P.globals.size⟩ S (aM0 P tb n l bo E K)
def WB(E:VE)(l:Nat)(args:List V)(S:Hp)(K:KV):Prop:=match S l with
 | some (.loop ls vs n ps as bo _ _)=>ls=Qb tb n bo/\Us P tb E n ps as bo l vs args S K
 | _=>False
abbrev Qj:=FuncId->Option (List V->Hp->KV->Prop)
def Ut(ov:Qj)(most:Nat)(n:Nat):VE:=
 aEg (β:=VE) ⟨λ_ _ _ _=>False,λ_ _ _ _=>False,most⟩ (λ_ E=>⟨λf args S K=>match ov f with | some g=>g args S K | none=>nV P tb f E args S K,λl args S K=>WB P tb E l args S K,most⟩) n
variable(Tb:pR)(r:Option Nat)(E:VE)
def rL:List Dir->Nat->Code->List Nat->CV->(Nat->Code->CV->Prop)->Prop
 | [],D,c,_,K,k=>k D c K
 | .l::p,D,.seq a b,ms,K,k=>rL p D a ms (ZK P (nQ Tb b) (lO P Tb r (EG P Tb r D) b) E K) k
 | .r::p,D,.seq _ b,ms,K,k=>rL p D b ms K k
 | .l::p,D,.cond _ a _,ms,K,k=>rL p D a ms K k
 | .r::p,D,.cond _ _ b,ms,K,k=>rL p D b ms K k
 | .d::p,D,.block id a,ms,K,k=>rL p D a ms (Lx id K) k
 | .d::p,D,.scope a,ms,K,k=>rL p D a ms K k
 | .d::p,D+1,.loop a,m::ms,K,k=>rL p D a ms (Uz Tb a (JG P Tb a (lO P Tb r (EG P Tb r D) a) E (aAC P Tb a K) m) (aAC P Tb a K)) k
 | _,_,_,_,_,_=>False
def DC(f:FuncId)(E:VE)(p:List Dir)(ms:List Nat)(vs:List V)(S:Hp)(K:KV):Prop:=
 match P.funcs[f]? with
 | some fn=>match fn.body with
  | some c=>rL P (tb f) none E p tE c ms (Or P fn K) λD c K=>match nQ (tb f) c with
   | some l=>aAD P l (lO P (tb f) none (EG P (tb f) none D) c) E K vs fn.ntmps S
   | none=>False
  | none=>False
 | none=>False
def Lr(f:FuncId)(E:VE)(p:List Dir)(ms:List Nat)(vs:List V)(S:Hp)(K:KV):Prop:=
 match P.funcs[f]? with
 | some fn=>match fn.body with
  | some c=>rL P (tb f) none E p tE c ms (Or P fn K) λD c K=>match nQ (tb f) c with
   | some l=>fG S λS=>EE l vs fn.ntmps P.globals.size λA=>(lO P (tb f) none (EG P (tb f) none D) c).f E A S K
   | none=>False
  | none=>False
 | none=>False
def mT(f:FuncId)(E:VE)(p:List Dir)(m:Nat)(ms:List Nat)(vs:List V)(S:Hp)(K:KV):Prop:=
 match P.funcs[f]? with
 | some fn=>match fn.body with
  | some c=>rL P (tb f) none E p tE c ms (Or P fn K) λD c K=>match D,c with
   | D+1,.loop a=>JG P (tb f) a (lO P (tb f) none (EG P (tb f) none D) a) E (aAC P (tb f) a K) m vs fn.ntmps S
   | _,_=>False
  | none=>False
 | none=>False
def NC:List Dir->Code->Code
 | [],c=>c
 | .l::p,.seq a _=>NC p a
 | .r::p,.seq _ b=>NC p b
 | .l::p,.cond _ a _=>NC p a
 | .r::p,.cond _ _ b=>NC p b
 | .d::p,.block _ a=>NC p a
 | .d::p,.scope a=>NC p a
 | .d::p,.loop a=>NC p a
 | .d::p,.rangeFunc _ _ _ b=>NC p b
 | _,c=>c
def AH(f:FuncId)(p:List Dir):Code:=match P.funcs[f]? with
 | some fn=>match fn.body with
  | some c=>NC p c
  | none=> .skip
 | none=> .skip
def aKy(f:FuncId)(p:List Dir):List Tmp:=match AH P f p with | .rangeFunc _ ps _ _=>ps.toList | _=>[]
def aKz(f:FuncId)(p:List Dir):Code:=match AH P f p with | .rangeFunc _ _ as _=>as | _=> .skip
def aH7(f:FuncId)(p:List Dir):Code:=match AH P f p with | .rangeFunc _ _ _ bo=>bo | _=> .skip
end
structure AZ(B:Nat->Prop)(S S':St)(B':Nat->Prop):Prop where
 n:S.n<=S'.n
 same:∀i,i<S.n->¬B i->S'.obj i=S.obj i
 sub:∀i,B' i->B i\/S.n<=i
theorem AZ.trans{B B1 B2:Nat->Prop}{S S1 S2:St}(h:AZ B S S1 B1)(k:AZ B1 S1 S2 B2):AZ B S S2 B2:=by
 refine⟨tP h.n k.n,λi hi hb=>?_,λi hi=>?_⟩
 ·rw [k.same i (DV hi h.n) (λKc=>?_),h.same i hi hb]
  rcases h.sub i Kc with h1 | h1
  ·exact hb h1
  ·omega
 ·rcases k.sub i hi with h1 | h1
  ·exact h.sub i h1
  ·exact .inr (tP h.n h1)
theorem AZ.refl(B:Nat->Prop)(S:St):AZ B S S B:=⟨bI _,λ_ _ _=>rfl,λ_ h=> .inl h⟩
inductive It where
 | num
 | kind
 | int
 | is
 | text
 | nums
 | list (its:List It)
def wIt:It->Nat
 | .num | .int=>8
 | .kind | .is=>1
 | .text=>16
 | .nums | .list _=>24
def aB8(l:List It):Nat:=(l.map wIt).foldr (· + ·) 0
inductive D where
 | n (z:Int)
 | b (v:Bool)
 | s (l:List UInt8)
 | l (es:List (List D))
def Wr(c:CK):Prop:=c= .rs\/c= .exact\/∃l,c= .grown l
inductive Rd(S:St)(C:Nat->Prop):It->Value->D->Prop where
 | num {z:Nat} (h:z<18446744073709551616):Rd S C .num (.int .u64 (.ofNat z)) (.n z)
 | kind {z:Nat} (h:z<256):Rd S C .kind (.int .u8 (.ofNat z)) (.n z)
 | int {z:Int} (h1: -9223372036854775808<=z) (h2:z<9223372036854775808):Rd S C .int (.int .i64 z) (.n z)
 | is {v:Bool}:Rd S C .is (.bool v) (.b v)
 | text {l:List UInt8} (h:l.length<=140737488355328):Rd S C .text (.string ⟨⟨l⟩⟩) (.s l)
 | nums {v:Value} {es:List (List D)} (h:Rd S C (.list [.num]) v (.l es)):Rd S C .nums v (.l es)
 | empty {its:List It}:Rd S C (.list its) (.slice none 0 0) (.l [])
 | Tq {its:List It} {b o s:Nat}:Rd S C (.list its) (.slice (some ⟨b,o,some (s+2)⟩) 0 0) (.l [])
 | row {its:List It} {b o n c:Nat} {sp:Option Nat} {vs:List Value} {e:TypeId} {ck:CK} {es:List (List D)} (CW:Ji sp=true) (hb:b<S.n) (hC:¬C b) (ho:S.obj b=some (.cells vs e ck)) (hw:Wr ck)
  (hn:es.length=n) (hl:o+n*its.length<=vs.length) (hd:∀ds∈es,ds.length=its.length) (hN:n<=140737488355328/\n*aB8 its<=140737488355328) (hnc:n<=c)
  (hr:∀(k:Nat) (ds:List D) (j:Nat) (it:It) (v:Value) (d:D),es[k]? =some ds->its[j]? =some it->vs[o+k*its.length+j]? =some v->ds[j]? =some d->Rd S C it v d):Rd S C (.list its) (.slice (some ⟨b,o,sp⟩) n c) (.l es)
theorem Rd.fr{S S':St}{C C':Nat->Prop}(f:AZ C S S' C'){it:It}{v:Value}{d:D}(h:Rd S C it v d):Rd S' C' it v d:=by
 induction h with
 | num h=>exact .num h
 | kind h=>exact .kind h
 | int h1 h2=>exact .int h1 h2
 | is=>exact .is
 | text h=>exact .text h
 | nums _ ih=>exact .nums ih
 | empty=>exact .empty
 | Tq=>exact .Tq
 | row CW hb hC ho hw hn hl hd hN hnc _ ih=>
  refine .row CW (DV hb f.n) (λh=>?_) (by rw [f.same _ hb hC];exact ho) hw hn hl hd hN hnc ih;rcases f.sub _ h with h | h
  ·exact hC h
  ·omega
theorem Rd.Zp{S:St}{C:Nat->Prop}{v:Value}{d:D}(h:Rd S C .kind v d):∃z:Nat,v= .int .u8 (.ofNat z)/\d= .n z/\z<256:=by
 cases h with | kind h=>exact⟨_,rfl,rfl,h⟩
theorem Rd.FO{S:St}{C:Nat->Prop}{v:Value}{d:D}(h:Rd S C .int v d):∃z:Int,v= .int .i64 z/\d= .n z/\ -9223372036854775808<=z/\z<9223372036854775808:=by
 cases h with | int h1 h2=>exact⟨_,rfl,rfl,h1,h2⟩
structure MX(S S':St):Prop where
 n:S.n<=S'.n
 same:∀i,i<S.n->S'.obj i=S.obj i
theorem MX.fr{S S':St}(h:MX S S')(B:Nat->Prop):AZ B S S' B:=⟨h.n,λi hi _=>h.same i hi,λ_ hi=> .inl hi⟩
theorem MX.refl(S:St):MX S S:=⟨bI _,λ_ _=>rfl⟩
structure RdA(S:St)(C:Nat->Prop)(its:List It)(cs:List Value)(ds:List D):Prop where
 len:cs.length=its.length
 Tp:ds.length=its.length
 rd:∀(j:Nat) (it:It) (v:Value) (d:D),its[j]? =some it->cs[j]? =some v->ds[j]? =some d->Rd S C it v d
theorem RdA.fr{S S':St}{C C':Nat->Prop}{its:List It}{cs:List Value}{ds:List D}(h:RdA S C its cs ds)(f:AZ C S S' C'):RdA S' C' its cs ds:=⟨h.len,h.Tp,λj it v d a b c=>(h.rd j it v d a b c).fr f⟩
theorem MX.trans{a b c:St}(h:MX a b)(k:MX b c):MX a c:=⟨tP h.n k.n,λi hi=>by rw [k.same i (DV hi h.n),h.same i hi]⟩
theorem MX.new(S:St)(o:iP):MX S (S.new o):=⟨Jd _,λ_i hi=>gV (Nat.ne_of_lt hi)⟩
structure Cx where
 Z:Nat->Option Nat
 G:Nat->Nat->Option Value
 Yz:Nat->Option Value
 n0:Nat
structure Cx.le0(c d:Cx):Prop where
 Z:∀i b,c.Z i=some b->d.Z i=some b
 G:∀i n v,c.G i n=some v->d.G i n=some v
 Yz:∀k v,c.Yz k=some v->d.Yz k=some v
structure Cx.le(c d:Cx):Prop where
 Z:∀i b,c.Z i=some b->d.Z i=some b
 G:∀i n v,c.G i n=some v->d.G i n=some v
 Yz:∀k v,c.Yz k=some v->d.Yz k=some v
 n0:d.n0=c.n0
theorem Cx.le.refl(c:Cx):c.le c:=⟨λ_ _ h=>h,λ_ _ _ h=>h,λ_ _ h=>h,rfl⟩
theorem Cx.le.trans{a b c:Cx}(h:a.le b)(k:b.le c):a.le c:=⟨λi b e=>k.Z i b (h.Z i b e),λi n v e=>k.G i n v (h.G i n v e),λi v e=>k.Yz i v (h.Yz i v e),k.n0.trans h.n0⟩
theorem Cx.le.to0{a b:Cx}(h:a.le b):a.le0 b:=⟨h.Z,h.G,h.Yz⟩
structure Fc(C:Nat->Prop)(S S':St)(C':Nat->Prop):Prop where
 n:S.n<=S'.n
 same:∀b,b<S.n->¬C b->∀vs e ck,S.obj b=some (.cells vs e ck)->S'.obj b=some (.cells vs e ck)
 sub:∀b,C' b->C b\/S.n<=b
theorem Fc.of{C C':Nat->Prop}{S S':St}(f:AZ C S S' C'):Fc C S S' C':=⟨f.n,λb h1 h2 _ _ _ e=>by rw [f.same b h1 h2];exact e,f.sub⟩
inductive WE(S:St)(C:Nat->Prop):Dt->Value->Prop
 | int {k:IntKind} {z:Int}:WE S C (.int k z) (.int k z)
 | bool {b:Bool}:WE S C (.bool b) (.bool b)
 | str {l:List UInt8}:WE S C (.str l) (.string ⟨⟨l⟩⟩)
 | nil:WE S C (.list [] 0) (.slice none 0 0)
 | emp {b o s:Nat}:WE S C (.list [] 0) (.slice (some ⟨b,o,some (s+2)⟩) 0 0)
 | row {b o n c:Nat} {sp:Option Nat} {vs:List Value} {e:TypeId} {ck:CK} {cs:List Dt} (CW:Ji sp=true) (hb:b<S.n) (hC:¬C b) (ho:S.obj b=some (.cells vs e ck)) (hl:o+cs.length<=vs.length) (hn:n<=c)
  (hr:∀(j:Nat) (d:Dt) (v:Value),cs[j]? =some d->vs[o+j]? =some v->WE S C d v):WE S C (.list cs n) (.slice (some ⟨b,o,sp⟩) n c)
inductive ND(c:Cx)(S:St)(C:Nat->Prop):Tag->Value->Prop
 | root {k:Nat} {w:Value} (h:c.Yz k=some w):ND c S C (.root k) w
 | sub {O:Tag} {b o n cc k:Nat} {sp:Option Nat} {vs:List Value} {e:TypeId} {ck:CK} {w:Value} (h:ND c S C O (.slice (some ⟨b,o,sp⟩) n cc)) (hb:b<S.n) (hC:¬C b) (ho:S.obj b=some (.cells vs e ck)) (hv:vs[o+k]? =some w):ND c S C (.sub O k) w
 | cut {O:Tag} {b o n cc d k q:Nat} {sp:Option Nat} (h:ND c S C O (.slice (some ⟨b,o,sp⟩) n cc)):ND c S C (.cut O d k q) (.slice (some ⟨b,o+d,none⟩) k q)
inductive fI(c:Cx)(S:St)(C:Nat->Prop):V->Value->Prop
 | int {k:IntKind} {z:Int}:fI c S C (.int k z) (.int k z)
 | bool {b:Bool}:fI c S C (.bool b) (.bool b)
 | str {l:List UInt8}:fI c S C (.str l) (.string ⟨⟨l⟩⟩)
 | list {O:Tag} {cs:List Dt} {n:Nat} {w:Value} (ht:ND c S C O w) (hd:WE S C (.list cs n) w):fI c S C (.list O cs n) w
 | rK {O:Tag} {cs:List Dt} {b o n cc k:Nat} {sp:Option Nat} (ht:ND c S C O (.slice (some ⟨b,o,sp⟩) n cc)) (hd:WE S C (.list cs n) (.slice (some ⟨b,o,sp⟩) n cc)):fI c S C (.rK O cs k) (.pointer (some ⟨b,o+k,none⟩))
 | nil:fI c S C .nil (.slice none 0 0)
 | acc {i n:Nat} {w:Value} (h:c.G i n=some w):fI c S C (.acc i n) w
 | oR {i n o k cc b:Nat} (h:c.G i n=some (.slice (some ⟨b,0,some 0⟩) n n)):fI c S C (.oR i n o k cc) (.slice (some ⟨b,o,some 0⟩) k cc)
 | aH8 {i n b:Nat} (h:c.G i n=some (.slice (some ⟨b,0,some 0⟩) n n)):fI c S C (.emp i n) (.slice (some ⟨b,0,some 1⟩) 0 0)
 | qX {i n o b:Nat} (h:c.G i n=some (.slice (some ⟨b,0,some 0⟩) n n)):fI c S C (.qX i n o) (.pointer (some ⟨b,o,none⟩))
 | own {i o n m b:Nat} (h:c.Z i=some b):fI c S C (.own i o n m) (.slice (some ⟨b,o,none⟩) n m)
 | ptr {i o b:Nat} (h:c.Z i=some b):fI c S C (.ptr i o) (.pointer (some ⟨b,o,none⟩))
 | lU:fI c S C .lU (.pointer none)
 | Ok:fI c S C .Ok .nilIface
 | sP {i b:Nat} (h:c.Z i=some b):fI c S C (.sP i) (.map (some b))
 | Om:fI c S C .Om (.map none)
 | QV:fI c S C .QV .nilFunc
 | yield {l b:Nat} (h:c.Z l=some b):fI c S C (.yield l) (.func (.yield b) ⟨[]⟩ ⟨[]⟩)
 | func {f:FuncId} {a d:List V} {a' d':List Value} (la:a.length=a'.length) (ld:d.length=d'.length) (ha:∀(k:Nat) (v:V) (w:Value),a[k]? =some v->a'[k]? =some w->fI c S C v w) (hd:∀(k:Nat) (v:V) (w:Value),d[k]? =some v->d'[k]? =some w->fI c S C v w):fI c S C (.func f a d) (.func (.func f) ⟨a'⟩ ⟨d'⟩)
 | GS {s:String} {v:V} {w:Value} (h:fI c S C v w):fI c S C (.GS s v) (.func (.method s) ⟨[w]⟩ ⟨[]⟩)
 | iface {t:TypeId} {v:V} {w:Value} (h:fI c S C v w):fI c S C (.iface t v) (.iface t w)
 | agg {a:List V} {a':List Value} (la:a.length=a'.length) (ha:∀(k:Nat) (v:V) (w:Value),a[k]? =some v->a'[k]? =some w->fI c S C v w):fI c S C (.agg a) (.agg ⟨a'⟩)
 | tuple {a:List V} {a':List Value} (la:a.length=a'.length) (ha:∀(k:Nat) (v:V) (w:Value),a[k]? =some v->a'[k]? =some w->fI c S C v w):fI c S C (.tuple a) (.tuple ⟨a'⟩)
structure kW(c:Cx)(S:St)(C:Nat->Prop)(a:List V)(a':List Value):Prop where
 len:a.length=a'.length
 rd:∀(k:Nat) (v:V) (w:Value),a[k]? =some v->a'[k]? =some w->fI c S C v w
section
variable{S S':St}{C C':Nat->Prop}{c d:Cx}
theorem WE.rN(f:Fc C S S' C'){x:Dt}{v:Value}(h:WE S C x v):WE S' C' x v:=by
 induction h with
 | int=>exact .int
 | bool=>exact .bool
 | str=>exact .str
 | nil=>exact .nil
 | emp=>exact .emp
 | row CW hb hC ho hl hn _ ih=>
  refine .row CW (DV hb f.n) (λh=>?_) (f.same _ hb hC _ _ _ ho) hl hn ih;rcases f.sub _ h with h | h
  ·exact hC h
  ·omega
theorem ND.rN(l:c.le0 d)(f:Fc C S S' C'){O:Tag}{v:Value}(h:ND c S C O v):ND d S' C' O v:=by
 induction h with
 | root h=>exact .root (l.Yz _ _ h)
 | cut _ ih=>exact .cut ih
 | sub _ hb hC ho hv ih=>
  refine .sub ih (DV hb f.n) (λh=>?_) (f.same _ hb hC _ _ _ ho) hv;rcases f.sub _ h with h | h
  ·exact hC h
  ·omega
theorem fI.rN(l:c.le0 d)(f:Fc C S S' C'){x:V}{v:Value}(h:fI c S C x v):fI d S' C' x v:=by
 induction h with
 | int=>exact .int
 | bool=>exact .bool
 | str=>exact .str
 | list ht hd=>exact .list (ht.rN l f) (hd.rN f)
 | rK ht hd=>exact .rK (ht.rN l f) (hd.rN f)
 | nil=>exact .nil
 | acc h=>exact .acc (l.G _ _ _ h)
 | qX h=>exact .qX (l.G _ _ _ h)
 | oR h=>exact .oR (l.G _ _ _ h)
 | aH8 h=>exact .aH8 (l.G _ _ _ h)
 | own h=>exact .own (l.Z _ _ h)
 | ptr h=>exact .ptr (l.Z _ _ h)
 | lU=>exact .lU
 | Ok=>exact .Ok
 | sP h=>exact .sP (l.Z _ _ h)
 | Om=>exact .Om
 | QV=>exact .QV
 | yield h=>exact .yield (l.Z _ _ h)
 | func la ld _ _ i1 i2=>exact .func la ld i1 i2
 | GS _ ih=>exact .GS ih
 | iface _ ih=>exact .iface ih
 | agg la _ ih=>exact .agg la ih
 | tuple la _ ih=>exact .tuple la ih
theorem WE.mono(f:AZ C S S' C'){x:Dt}{v:Value}(h:WE S C x v):WE S' C' x v:=h.rN (.of f)
theorem fI.mono(l:c.le d)(f:AZ C S S' C'){x:V}{v:Value}(h:fI c S C x v):fI d S' C' x v:=h.rN l.to0 (.of f)
theorem kW.rN(l:c.le0 d)(f:Fc C S S' C'){x:List V}{v:List Value}(h:kW c S C x v):kW d S' C' x v:=⟨h.len,λk a b p q=>(h.rd k a b p q).rN l f⟩
theorem kW.mono(l:c.le d)(f:AZ C S S' C'){x:List V}{v:List Value}(h:kW c S C x v):kW d S' C' x v:=⟨h.len,λk a b p q=>(h.rd k a b p q).mono l f⟩
theorem ND.fn{O:Tag}{v:Value}(h:ND c S C O v):∀{w:Value},ND c S C O w->v=w:=by
 induction h with
 | root h=>
  intro w k;cases k with | root k=>rw [h]at k;injection k
 | cut _ ih=>
  intro w k;cases k with
  | cut h2=>
   have:=ih h2;injection this with e1 e2 e3;injection e1 with e1;injection e1 with e4 e5 e6;subst e4 e5;rfl
 | sub _ hb hC ho hv ih=>
  intro w k;cases k with
  | sub h2 TC hC2 wK Sw=>
   have:=ih h2;injection this with e1 e2 e3;injection e1 with e1;injection e1 with e4 e5 e6;subst e4 e5;rw [ho]at wK;injection wK with wK;injection wK with wK;subst wK;rw [hv]at Sw;injection Sw
theorem SM{a:List V}{x y:List Value}(hx:a.length=x.length)(hy:a.length=y.length)(h:∀(k:Nat) (v:V) (w:Value),a[k]? =some v->x[k]? =some w->∀{u:Value},fI c S C v u->w=u)(k:∀(k:Nat) (v:V) (w:Value),a[k]? =some v->y[k]? =some w->fI c S C v w):x=y:=by
 refine List.ext_getElem (by omega) λi a1 a2=>?_;exact h i _ _ (aP (by omega)) (aP a1) (k i _ _ (aP (by omega)) (aP a2))
theorem fI.fn{x:V}{v:Value}(h:fI c S C x v):∀{w:Value},fI c S C x w->v=w:=by
 induction h with
 | int=>intro w k;cases k;rfl
 | bool=>intro w k;cases k;rfl
 | str=>intro w k;cases k;rfl
 | list ht _=>intro w k;cases k with | list ht2 _=>exact ht.fn ht2
 | rK ht _=>
  intro w k;cases k with
  | rK ht2 _=>
   have:=ht.fn ht2;injection this with e1 e2 e3;injection e1 with e1;injection e1 with e4 e5 e6;subst e4 e5;rfl
 | nil=>intro w k;cases k;rfl
 | acc h=>intro w k;cases k with | acc k=>rw [h]at k;injection k
 | oR h=>
  intro w k;cases k with
  | oR k=>
   rw [h]at k;injection k with k;injection k with e1 e2 e3;injection e1 with e1;injection e1 with e4 e5 e6;subst e4;rfl
 | aH8 h=>
  intro w k;cases k with
  | aH8 k=>
   rw [h]at k;injection k with k;injection k with e1 e2 e3;injection e1 with e1;injection e1 with e4 e5 e6;subst e4;rfl
 | qX h=>
  intro w k;cases k with
  | qX k=>
   rw [h]at k;injection k with k;injection k with e1 e2 e3;injection e1 with e1;injection e1 with e4 e5 e6;subst e4;rfl
 | own h=>intro w k;cases k with | own k=>rw [h]at k;injection k with k;subst k;rfl
 | ptr h=>intro w k;cases k with | ptr k=>rw [h]at k;injection k with k;subst k;rfl
 | lU=>intro w k;cases k;rfl
 | Ok=>intro w k;cases k;rfl
 | Om=>intro w k;cases k;rfl
 | sP h=>intro w k;cases k with | sP k=>rw [h]at k;injection k with k;subst k;rfl
 | QV=>intro w k;cases k;rfl
 | yield h=>intro w k;cases k with | yield k=>rw [h]at k;injection k with k;subst k;rfl
 | func la ld _ _ i1 i2=>
  intro w k;cases k with
  | func la2 ld2 k1 k2=>rw [SM la la2 (λk v w p q u=>i1 k v w p q) k1,SM ld ld2 (λk v w p q u=>i2 k v w p q) k2]
 | GS _ ih=>intro w k;cases k with | GS k=>rw [ih k]
 | iface _ ih=>intro w k;cases k with | iface k=>rw [ih k]
 | agg la _ ih=>intro w k;cases k with | agg la2 k=>rw [SM la la2 (λk v w p q u=>ih k v w p q) k]
 | tuple la _ ih=>intro w k;cases k with | tuple la2 k=>rw [SM la la2 (λk v w p q u=>ih k v w p q) k]
theorem kW.nil:kW c S C [] []:=⟨rfl,λk v w a=>by simp at a⟩
theorem kW.cons{v:V}{w:Value}{l:List V}{m:List Value}(h:fI c S C v w)(k:kW c S C l m):kW c S C (v::l) (w::m):=by
 refine⟨by simp [k.len],λj x y a b=>?_⟩;cases j with
 | zero=>simp at a b;subst a b;exact h
 | succ j=>simp at a b;exact k.rd j x y a b
theorem kW.nK{m:List Value}(h:kW c S C [] m):m=[]:=mS (by simpa using h.len.symm)
theorem kW.cons_inv{v:V}{l:List V}{m:List Value}(h:kW c S C (v::l) m):∃w m',m=w::m'/\fI c S C v w/\kW c S C l m':=by
 cases m with
 | nil=>have:=h.len;simp at this
 | cons w m=>exact⟨w,m,rfl,h.rd 0 v w rfl rfl,by simpa using h.len,λk x y a b=>h.rd (k+1) x y (by simpa using a) (by simpa using b)⟩
theorem kW.app{l l2:List V}{m m2:List Value}(h:kW c S C l m)(k:kW c S C l2 m2):kW c S C (l++l2) (m++m2):=by
 refine⟨by simp [h.len,k.len],λj x y a b=>?_⟩;have hl:=h.len;by_cases hj:j<l.length
 ·rw [fB hj]at a
  rw [fB (by omega)]at b;exact h.rd j x y a b
 ·rw [iG (by omega)]at a b
  exact k.rd _ x y a (by rw [hl];exact b)
theorem kW.take{l:List V}{m:List Value}(h:kW c S C l m)(n:Nat):kW c S C (l.take n) (m.take n):=by
 refine⟨by simp [h.len],λj x y a b=>?_⟩;rw [kR]at a b;split at a
 ·rename_i hj;rw [if_pos hj]at b;exact h.rd j x y a b
 ·cases a
theorem kW.drop{l:List V}{m:List Value}(h:kW c S C l m)(n:Nat):kW c S C (l.drop n) (m.drop n):=by
 refine⟨by simp [h.len],λj x y a b=>?_⟩;rw [kS]at a b;exact h.rd _ x y a b
theorem kW.aE{l n:List V}{m n':List Value}(h:kW c S C l m)(k:kW c S C n n')(o:Nat):kW c S C (Am.aE o n l) (Am.aE o n' m):=by
 unfold Am.aE;rw [<-k.len];exact((h.take o).app k).app (h.drop _)
theorem kW.get{l:List V}{m:List Value}(h:kW c S C l m){k:Nat}{v:V}(hv:l[k]? =some v):∃w,m[k]? =some w/\fI c S C v w:=by
 have hk:k<m.length:=by rw [<-h.len];exact(dS.1 hv).1
 exact⟨m[k],aP hk,h.rd k v _ hv (aP hk)⟩
theorem kW.flatten{l:List V}{m:List Value}(h:kW c S C l m)(n:Nat):kW c S C (List.replicate n l).flatten (List.replicate n m).flatten:=by
 induction n with
 | zero=>exact .nil
 | succ n ih=>simp only [Rp,Bg];exact h.app ih
theorem aAE{v:Value}{x:V}(h:ofV v=some x):bE v=true:=by
 unfold ofV at h;split at h<;>first | rfl | cases h
theorem aH9{v:Value}{x:V}(h:ofV v=some x):fI c S C x v:=by
 unfold ofV at h;split at h<;>first | (injection h with h;subst h;first | exact .int | exact .bool | exact .str | exact .lU | exact .nil | exact .Ok | exact .QV | exact .Om) | cases h
theorem SN:∀{z:List Value} {l:List V},ED z=some l->kW c S C l z:=by
 intro z;induction z with
 | nil=>intro l h;simp [ED]at h;subst h;exact .nil
 | cons v z ih=>
  intro l h;unfold ED at h;split at h
  ·rename_i x hx
   split at h
   ·rename_i xs hxs
    injection h with h;subst h;exact .cons (aH9 hx) (ih hxs)
   ·cases h
  ·cases h
end
theorem aM1{c:Cx}{S:St}{C:Nat->Prop}{O:Tag}{d:Dt}{w:Value}(h:WE S C d w)(ht:ND c S C O w):fI c S C (T O d) w:=by
 cases h with
 | int=>exact .int
 | bool=>exact .bool
 | str=>exact .str
 | nil=>exact .list ht .nil
 | emp=>exact .list ht .emp
 | row a b e f g i j=>exact .list ht (.row a b e f g i j)
def HN(es:List MapEntry)(ck:Nat):Prop:=(es.map (·.born)).Pairwise (· < ·)/\∀e∈es,e.born<ck
theorem HN.app{es:List MapEntry}{ck:Nat}(b:HN es ck){e:MapEntry}(he:e.born=ck):HN (es++[e]) (ck+1):=by
 refine⟨?_,λx hx=>?_⟩
 ·rw [Iy,List.pairwise_append]
  refine⟨b.1,by simp,λx hx y hy=>?_⟩;obtain⟨z,hz,rfl⟩:=mF.1 hx;simp at hy;subst hy;rw [he];exact b.2 z hz
 ·rcases uP.1 hx with hx | hx
  ·have:=b.2 x hx;omega
  ·simp at hx;subst hx;omega
theorem HN.set{es:List MapEntry}{ck:Nat}(b:HN es ck){j:Nat}{e e2:MapEntry}(hj:es[j]? =some e)(he:e2.born=e.born):HN (es.set j e2) ck:=by
 have hm:(es.set j e2).map (·.born)=es.map (·.born):=by
  apply uO;intro k;rw [jA,jA,Iv];split
  ·rename_i h;subst h
   have hlt:=(dS.1 hj).1;rw [if_pos hlt,hj];simp [he]
  ·rfl
 refine⟨by rw [hm];exact b.1,λx hx=>?_⟩;obtain⟨k,hk⟩:=GI hx;have h1:((es.set j e2).map (·.born))[k]? =some x.born:=by rw [jA,hk];rfl
 rw [hm,jA]at h1;cases hq:es[k]? with
 | none=>rw [hq]at h1;cases h1
 | some y=>
  rw [hq]at h1;simp at h1;rw [<-h1];exact b.2 y (wI hq)
def ObR(c:Cx)(S:St)(C:Nat->Prop)(o:Ob)(a:iP):Prop:=match o with
 | .row vs t=>∃ws,a= .cells ws t .exact/\kW c S C vs ws
 | .iX _ _ _=>False
 | .map es=>∃iW clock,a= .map iW clock/\HN iW clock/\es.length=iW.length/\∀(k:Nat) (x:V×V) (y:MapEntry),es[k]? =some x->iW[k]? =some y->fI c S C x.1 y.key/\fI c S C x.2 y.val
 | .ZG es bs ck=>∃iW,a= .map iW ck/\iW.map (·.born)=bs/\HN iW ck/\es.length=iW.length/\∀(k:Nat) (x:V×V) (y:MapEntry),es[k]? =some x->iW[k]? =some y->fI c S C x.1 y.key/\fI c S C x.2 y.val
 | .iter m since seen last=>∃r,a= .iter (some r) since seen last/\c.Z m=some r
 | .loop ls vs n ps as bo st pe=>∃T,a= .loop T ps as bo st pe/\n=T.n/\vs.length=ls.length/\∀(j i:Nat) (v:V),ls[j]? =some i->vs[j]? =some v->∃w,T.t.get i=some w/\fI c S C v w
theorem ObR.rN{c d:Cx}{S S':St}{C C':Nat->Prop}(l:c.le0 d)(f:Fc C S S' C'){o:Ob}{a:iP}(h:ObR c S C o a):ObR d S' C' o a:=by
 cases o with
 | row vs t=>obtain⟨ws,e,r⟩:=h;exact⟨ws,e,r.rN l f⟩
 | iX=>exact h
 | map es=>
  obtain⟨iW,k,e,hb,hl,r⟩:=h;exact⟨iW,k,e,hb,hl,λi x y p q=>⟨(r i x y p q).1.rN l f,(r i x y p q).2.rN l f⟩⟩
 | ZG es bs ck=>
  obtain⟨iW,e,hbs,hb,hl,r⟩:=h;exact⟨iW,e,hbs,hb,hl,λi x y p q=>⟨(r i x y p q).1.rN l f,(r i x y p q).2.rN l f⟩⟩
 | iter m since seen last=>
  obtain⟨r,e,q⟩:=h;exact⟨r,e,l.Z _ _ q⟩
 | loop ls vs n ps as bo st pe=>
  obtain⟨T,e,hn,q,r⟩:=h;exact⟨T,e,hn,q,λj i v p p2=>let⟨w,a,b⟩:=r j i v p p2;⟨w,a,b.rN l f⟩⟩
theorem ObR.mono{c d:Cx}{S S':St}{C C':Nat->Prop}(l:c.le d)(f:AZ C S S' C'){o:Ob}{a:iP}(h:ObR c S C o a):ObR d S' C' o a:=h.rN l.to0 (.of f)
def rO(c:Cx)(h:Hp)(i b:Nat):Prop:=(∃o,h i=some o/\QW o=false/\c.Z i=some b)\/∃vs t n m,h i=some (.iX vs t n)/\c.G i m=some (.slice (some ⟨b,0,some 0⟩) m m)
section
variable(P:Program)(B:Nat->Prop)(Sbz:St)
def cY(c:Cx)(h:Hp):Nat->Prop:=λb=>B b\/∃i,rO c h i b
structure VS(c:Cx)(h:Hp)(S:St):Prop where
 base:MX Sbz S
 bB:∀b,B b->b<Sbz.n
 ob:∀i o,h i=some o->QW o=false->∃b a,c.Z i=some b/\Sbz.n<=b/\b<S.n/\S.obj b=some a/\ObR c S (cY B c h) o a
 iX:∀i vs t n,h i=some (.iX vs t n)->∃b ws olds sz,c.G i n=some (.slice (some ⟨b,0,some 0⟩) n n)/\Sbz.n<=b/\b<S.n/\S.obj b=some (.cells ws t (.grown olds))/\kW c S (cY B c h) vs ws/\bP P t=some sz/\vs.length=n*sz/\∀m,n<m->c.G i m=none
 inj:∀i j b,rO c h i b->rO c h j b->i=j
 Gs:∀i n w,c.G i n=some w->∃b,w= .slice (some ⟨b,0,some 0⟩) n n
 room:∃N,∀i,N<=i->h i=none/\c.Z i=none/\∀n,c.G i n=none
 RD:∃M,∀k,M<=k->c.Yz k=none
 Gb:∀i vs t n m b,h i=some (.iX vs t n)->c.G i m=some (.slice (some ⟨b,0,some 0⟩) m m)->Sbz.n<=b/\b<S.n
 old:∀i vs t n b ws e olds,h i=some (.iX vs t n)->c.G i n=some (.slice (some ⟨b,0,some 0⟩) n n)->S.obj b=some (.cells ws e (.grown olds))->∀x∈olds,∃m,c.G i m=some (.slice (some ⟨x,0,some 0⟩) m m)
end
section
variable{P:Program}{B:Nat->Prop}{Sbz:St}{c d:Cx}{h h':Hp}{S S':St}
theorem VS.row(s:VS P B Sbz c h S)(i:Nat)(vs:List V)(t:TypeId)(e:h i=some (.row vs t)):∃b ws,c.Z i=some b/\Sbz.n<=b/\b<S.n/\S.obj b=some (.cells ws t .exact)/\kW c S (cY B c h) vs ws:=by
 obtain⟨b,a,a1,a2,a3,a4,ws,rfl,a5⟩:=s.ob i _ e rfl;exact⟨b,ws,a1,a2,a3,a4,a5⟩
theorem VS.bd(s:VS P B Sbz c h S){i b:Nat}(l:rO c h i b):Sbz.n<=b/\b<S.n:=by
 rcases l with ⟨o,e1,eg,e2⟩ | ⟨vs,t,n,m,e1,e2⟩
 ·obtain⟨b',ws,a1,a2,a3,_⟩:=s.ob i o e1 eg
  rw [e2]at a1;injection a1 with a1;subst a1;exact⟨a2,a3⟩
 ·exact s.Gb i vs t n m b e1 e2
theorem VS.fresh(s:VS P B Sbz c h S):∃i,h i=none/\c.Z i=none/\∀n,c.G i n=none:=by
 obtain⟨N,hN⟩:=s.room;exact⟨N,hN N (bI _)⟩
theorem VS.aFJ(s:VS P B Sbz c h S){b:Nat}(l:cY B c h b):b<S.n:=by
 rcases l with l | ⟨i,l⟩
 ·exact DV (s.bB b l) s.base.n
 ·exact(s.bd l).2
def Cx.putZ(c:Cx)(i b:Nat):Cx:=⟨λj=>if j=i then some b else c.Z j,c.G,c.Yz,c.n0⟩
def Cx.putG(c:Cx)(i n:Nat)(w:Value):Cx:=⟨c.Z,λj m=>if j=i/\m=n then some w else c.G j m,c.Yz,c.n0⟩
theorem Cx.putZ_le{i b:Nat}(hi:c.Z i=none):c.le (c.putZ i b):=by
 refine⟨λj x e=>?_,λ_ _ _ e=>e,λ_ _ e=>e,rfl⟩;show(if j=i then some b else c.Z j)=some x;rw [if_neg (λe2=>by subst e2;rw [hi]at e;cases e)];exact e
theorem Cx.putG_le{i n:Nat}{w:Value}(hi:c.G i n=none):c.le (c.putG i n w):=by
 refine⟨λ_ _ e=>e,λj m x e=>?_,λ_ _ e=>e,rfl⟩;show(if j=i/\m=n then some w else c.G j m)=some x;rw [if_neg (λe2=>by obtain⟨rfl,rfl⟩:=e2;rw [hi]at e;cases e)];exact e
theorem aB{i:Nat}{o:Ob}:aM h i o i=some o:=if_pos rfl
theorem aC{i j:Nat}{o:Ob}(e:j≠i):aM h i o j=h j:=if_neg e
theorem VS.aEi(s:VS P B Sbz c h S){i:Nat}(_h0:h i=none)(h1:c.Z i=none)(_h2:∀n,c.G i n=none){o:Ob}{ao:iP}(hg:QW o=false)(ho:∀d S' C',c.le d->AZ (cY B c h) S S' C'->ObR d S' C' o ao):
 VS P B Sbz (c.putZ i S.n) (aM h i o) (S.new ao)/\c.le (c.putZ i S.n)/\AZ (cY B c h) S (S.new ao) (cY B (c.putZ i S.n) (aM h i o))/\(c.putZ i S.n).Z i=some S.n:=by
 have le:=Cx.putZ_le (c:=c) (i:=i) (b:=S.n) h1
 have TH:∀j b,rO (c.putZ i S.n) (aM h i o) j b->(j=i/\b=S.n)\/(j≠i/\rO c h j b):=by
  intro j b l;by_cases e:j=i
  ·subst e
   rcases l with ⟨o',_,_,e2⟩ | ⟨vs',t',n,m,e1,e2⟩
   ·have:(if j=j then some S.n else c.Z j)=some b:=e2
    rw [if_pos rfl]at this;injection this with this;exact .inl ⟨rfl,this.symm⟩
   ·rw [aB]at e1;injection e1 with e1;subst e1;cases hg
  ·refine .inr ⟨e,?_⟩
   rcases l with ⟨o',e1,eg,e2⟩ | ⟨vs',t',n,m,e1,e2⟩
   ·rw [aC e]at e1
    have e2:(if j=i then some S.n else c.Z j)=some b:=e2;rw [if_neg e]at e2;exact .inl ⟨o',e1,eg,e2⟩
   ·rw [aC e]at e1
    exact .inr ⟨vs',t',n,m,e1,e2⟩
 have fr:AZ (cY B c h) S (S.new ao) (cY B (c.putZ i S.n) (aM h i o)):=by
  refine⟨Jd _,λj hj _=>gV (Nat.ne_of_lt hj),λb l=>?_⟩;rcases l with l | ⟨j,l⟩
  ·exact .inl (.inl l)
  ·rcases TH j b l with ⟨_,e⟩ | ⟨_,l⟩
   ·exact .inr (Jc e.symm)
   ·exact .inl (.inr ⟨j,l⟩)
 refine⟨⟨s.base.trans (.new S _),s.bB,?_,?_,?_,s.Gs,?_,s.RD,?_,?_⟩,le,fr,if_pos rfl⟩
 ·intro j o' e eg
  by_cases e2:j=i
  ·subst e2
   rw [aB]at e;injection e with e;subst e;exact⟨S.n,ao,if_pos rfl,s.base.n,xS _,sO,ho _ _ _ le fr⟩
  ·rw [aC e2]at e
   obtain⟨b,a',a1,a2,a3,a4,a5⟩:=s.ob j o' e eg;exact⟨b,a',le.Z _ _ a1,a2,oT a3,by rw [gV (by omega)];exact a4,a5.mono le fr⟩
 ·intro j vs' t' n e
  have e2:j≠i:=λe2=>by subst e2;rw [aB]at e;injection e with e;subst e;cases hg
  rw [aC e2]at e;obtain⟨b,ws',olds,sz,a1,a2,a3,a4,a5,a6⟩:=s.iX j vs' t' n e;exact⟨b,ws',olds,sz,a1,a2,oT a3,by rw [gV (by omega)];exact a4,a5.mono le fr,a6⟩
 ·intro j k b l1 l2
  rcases TH j b l1 with ⟨e1,e2⟩ | ⟨e1,l1⟩
  ·rcases TH k b l2 with ⟨e3,e4⟩ | ⟨e3,l2⟩
   ·rw [e1,e3]
   ·have:=(s.bd l2).2;omega
  ·rcases TH k b l2 with ⟨e3,e4⟩ | ⟨e3,l2⟩
   ·have:=(s.bd l1).2;omega
   ·exact s.inj j k b l1 l2
 ·obtain⟨N,hN⟩:=s.room
  refine⟨max N (i+1),λj hj=>?_⟩;obtain⟨a1,a2,a3⟩:=hN j (by omega);exact⟨by rw [aC (by omega)];exact a1,by show(if j=i then _ else c.Z j)=none;rw [if_neg (by omega)];exact a2,a3⟩
 ·intro j vs' t' n m b e e3
  have e2:j≠i:=λe2=>by subst e2;rw [aB]at e;injection e with e;subst e;cases hg
  rw [aC e2]at e;obtain⟨q1,q2⟩:=s.Gb j vs' t' n m b e e3;exact⟨q1,oT q2⟩
 ·intro j vs' t' n b ws' e' olds e e3 e4
  have e2:j≠i:=λe2=>by subst e2;rw [aB]at e;injection e with e;subst e;cases hg
  rw [aC e2]at e;rw [gV (by have:=(s.Gb j vs' t' n n b e e3).2;omega)]at e4;exact s.old j vs' t' n b ws' e' olds e e3 e4
theorem VS.newRow(s:VS P B Sbz c h S){i:Nat}(h0:h i=none)(h1:c.Z i=none)(h2:∀n,c.G i n=none){vs:List V}{ws:List Value}(t:TypeId)(hv:kW c S (cY B c h) vs ws):
 VS P B Sbz (c.putZ i S.n) (aM h i (.row vs t)) (S.new (.cells ws t .exact))/\c.le (c.putZ i S.n)/\AZ (cY B c h) S (S.new (.cells ws t .exact)) (cY B (c.putZ i S.n) (aM h i (.row vs t)))/\(c.putZ i S.n).Z i=some S.n:=
 s.aEi h0 h1 h2 (o:= .row vs t) rfl λ_ _ _ l f=>⟨ws,rfl,hv.mono l f⟩
theorem VS.Qn(s:VS P B Sbz c h S){i b:Nat}{o0 o:Ob}(h0:h i=some o0)(g0:QW o0=false)(h1:c.Z i=some b){ao:iP}(hg:QW o=false)(ho:∀S' C',AZ (cY B c h) S S' C'->ObR c S' C' o ao):
 VS P B Sbz c (aM h i o) (S.set b ao)/\AZ (cY B c h) S (S.set b ao) (cY B c (aM h i o)):=by
 have hb:rO c h i b:= .inl ⟨o0,h0,g0,h1⟩;obtain⟨g1,g2⟩:=s.bd hb
 have TH:∀j x,rO c (aM h i o) j x->rO c h j x:=by
  intro j x l;by_cases e:j=i
  ·subst e
   rcases l with ⟨o',e1,eg,e2⟩ | ⟨vs2,t2,n,m,e1,e2⟩
   ·exact .inl ⟨o0,h0,g0,e2⟩
   ·rw [aB]at e1;injection e1 with e1;subst e1;cases hg
  ·rcases l with ⟨o',e1,eg,e2⟩ | ⟨vs2,t2,n,m,e1,e2⟩
   ·rw [aC e]at e1;exact .inl ⟨o',e1,eg,e2⟩
   ·rw [aC e]at e1;exact .inr ⟨vs2,t2,n,m,e1,e2⟩
 have fr:AZ (cY B c h) S (S.set b ao) (cY B c (aM h i o)):=by
  refine⟨bI _,λj _ hc=>kZ λe=>hc (.inr ⟨i,e▸hb⟩),λx l=>?_⟩;rcases l with l | ⟨j,l⟩
  ·exact .inl (.inl l)
  ·exact .inl (.inr ⟨j,TH j x l⟩)
 refine⟨⟨⟨s.base.n,λj hj=>?_⟩,s.bB,?_,?_,λj k x l1 l2=>s.inj j k x (TH j x l1) (TH k x l2),s.Gs,?_,s.RD,?_,?_⟩,fr⟩
 ·rw [kZ (by omega)];exact s.base.same j hj
 ·intro j o' e eg
  by_cases e2:j=i
  ·subst e2
   rw [aB]at e;injection e with e;subst e;exact⟨b,ao,h1,g1,g2,Ud,ho _ _ fr⟩
  ·rw [aC e2]at e
   obtain⟨x,a',a1,a2,a3,a4,a5⟩:=s.ob j o' e eg;have:x≠b:=λe3=>e2 (s.inj j i b (.inl ⟨o',e,eg,e3▸a1⟩) hb);exact⟨x,a',a1,a2,a3,by rw [kZ this];exact a4,a5.mono (.refl c) fr⟩
 ·intro j vs2 t2 n e
  have e2:j≠i:=λe2=>by subst e2;rw [aB]at e;injection e with e;subst e;cases hg
  rw [aC e2]at e;obtain⟨x,ws2,olds,sz,a1,a2,a3,a4,a5,a6⟩:=s.iX j vs2 t2 n e;have:x≠b:=λe3=>e2 (s.inj j i b (.inr ⟨vs2,t2,n,n,e,e3▸a1⟩) hb);exact⟨x,ws2,olds,sz,a1,a2,a3,by rw [kZ this];exact a4,a5.mono (.refl c) fr,a6⟩
 ·obtain⟨N,hN⟩:=s.room
  refine⟨N,λj hj=>?_⟩;obtain⟨a1,a2,a3⟩:=hN j hj;have:j≠i:=λe=>by subst e;rw [h0]at a1;cases a1
  exact⟨by rw [aC this];exact a1,a2,a3⟩
 ·intro j vs2 t2 n m x e e3
  have e2:j≠i:=λe2=>by subst e2;rw [aB]at e;injection e with e;subst e;cases hg
  rw [aC e2]at e;exact s.Gb j vs2 t2 n m x e e3
 ·intro j vs2 t2 n x ws' e' olds e e3 e4
  have e2:j≠i:=λe2=>by subst e2;rw [aB]at e;injection e with e;subst e;cases hg
  rw [aC e2]at e;have:x≠b:=λe5=>e2 (s.inj j i b (.inr ⟨vs2,t2,n,n,e,e5▸e3⟩) hb);rw [kZ this]at e4;exact s.old j vs2 t2 n x ws' e' olds e e3 e4
theorem VS.aO5(s:VS P B Sbz c h S){i b:Nat}{o0 o:Ob}(h0:h i=some o0)(g0:QW o0=false)(h1:c.Z i=some b)(hg:QW o=false)(ho:∀a C',S.obj b=some a->ObR c S C' o0 a->ObR c S C' o a):
 VS P B Sbz c (aM h i o) S/\cY B c (aM h i o)=cY B c h:=by
 have TH:∀j x,rO c (aM h i o) j x↔rO c h j x:=by
  intro j x;by_cases e:j=i
  ·subst e
   constructor
   ·intro l
    rcases l with ⟨o',e1,eg,e2⟩ | ⟨vs2,t2,n,m,e1,e2⟩
    ·exact .inl ⟨o0,h0,g0,e2⟩
    ·rw [aB]at e1;injection e1 with e1;subst e1;cases hg
   ·intro l
    rcases l with ⟨o',e1,eg,e2⟩ | ⟨vs2,t2,n,m,e1,e2⟩
    ·exact .inl ⟨o,aB,hg,e2⟩
    ·rw [h0]at e1;injection e1 with e1;subst e1;cases g0
  ·constructor
   ·intro l
    rcases l with ⟨o',e1,eg,e2⟩ | ⟨vs2,t2,n,m,e1,e2⟩
    ·rw [aC e]at e1;exact .inl ⟨o',e1,eg,e2⟩
    ·rw [aC e]at e1;exact .inr ⟨vs2,t2,n,m,e1,e2⟩
   ·intro l
    rcases l with ⟨o',e1,eg,e2⟩ | ⟨vs2,t2,n,m,e1,e2⟩
    ·exact .inl ⟨o',by rw [aC e];exact e1,eg,e2⟩
    ·exact .inr ⟨vs2,t2,n,m,by rw [aC e];exact e1,e2⟩
 have hL:cY B c (aM h i o)=cY B c h:=by
  funext x
  apply propext;constructor
  ·rintro(l | ⟨j,l⟩)
   ·exact .inl l
   ·exact .inr ⟨j,(TH j x).1 l⟩
  ·rintro(l | ⟨j,l⟩)
   ·exact .inl l
   ·exact .inr ⟨j,(TH j x).2 l⟩
 refine⟨⟨s.base,s.bB,?_,?_,λj k x l1 l2=>s.inj j k x ((TH j x).1 l1) ((TH k x).1 l2),s.Gs,?_,s.RD,?_,?_⟩,hL⟩
 ·intro j o' e eg
  rw [hL];by_cases e2:j=i
  ·subst e2
   rw [aB]at e;injection e with e;subst e;obtain⟨b',a,a1,a2,a3,a4,a5⟩:=s.ob j o0 h0 g0;rw [h1]at a1;injection a1 with a1;subst a1;exact⟨b,a,h1,a2,a3,a4,ho _ _ a4 a5⟩
  ·rw [aC e2]at e
   exact s.ob j o' e eg
 ·intro j vs2 t2 n e
  have e2:j≠i:=λe2=>by subst e2;rw [aB]at e;injection e with e;subst e;cases hg
  rw [aC e2]at e;rw [hL];exact s.iX j vs2 t2 n e
 ·obtain⟨N,hN⟩:=s.room
  refine⟨N,λj hj=>?_⟩;obtain⟨a1,a2,a3⟩:=hN j hj;have:j≠i:=λe=>by subst e;rw [h0]at a1;cases a1
  exact⟨by rw [aC this];exact a1,a2,a3⟩
 ·intro j vs2 t2 n m x e e3
  have e2:j≠i:=λe2=>by subst e2;rw [aB]at e;injection e with e;subst e;cases hg
  rw [aC e2]at e;exact s.Gb j vs2 t2 n m x e e3
 ·intro j vs2 t2 n x ws' e' olds e e3 e4
  have e2:j≠i:=λe2=>by subst e2;rw [aB]at e;injection e with e;subst e;cases hg
  rw [aC e2]at e;exact s.old j vs2 t2 n x ws' e' olds e e3 e4
theorem VS.setRow(s:VS P B Sbz c h S){i b:Nat}{vs vs':List V}{t:TypeId}(h0:h i=some (.row vs t))(h1:c.Z i=some b){ws':List Value}(hv:kW c S (cY B c h) vs' ws'):
 VS P B Sbz c (aM h i (.row vs' t)) (S.set b (.cells ws' t .exact))/\AZ (cY B c h) S (S.set b (.cells ws' t .exact)) (cY B c (aM h i (.row vs' t))):=
 s.Qn h0 rfl h1 (o:= .row vs' t) rfl λ_ _ f=>⟨ws',rfl,hv.mono (.refl c) f⟩
theorem VS.drop(s:VS P B Sbz c h S)(l:cP h' h):VS P B Sbz c h' S/\AZ (cY B c h) S S (cY B c h'):=by
 have TH:∀j x,rO c h' j x->rO c h j x:=by
  intro j x k;rcases k with ⟨o,e1,eg,e2⟩ | ⟨vs2,t2,n,m,e1,e2⟩
  ·exact .inl ⟨o,l _ _ e1,eg,e2⟩
  ·exact .inr ⟨vs2,t2,n,m,l _ _ e1,e2⟩
 have fr:AZ (cY B c h) S S (cY B c h'):=by
  refine⟨bI _,λ_ _ _=>rfl,λx k=>?_⟩;rcases k with k | ⟨j,k⟩
  ·exact .inl (.inl k)
  ·exact .inl (.inr ⟨j,TH j x k⟩)
 refine⟨⟨s.base,s.bB,λi o e eg=>?_,λi vs t n e=>?_,λj k x l1 l2=>s.inj j k x (TH j x l1) (TH k x l2),s.Gs,?_,s.RD,λi vs t n m b e e3=>s.Gb i vs t n m b (l _ _ e) e3,λi vs t n b ws e' olds e e3 e4=>s.old i vs t n b ws e' olds (l _ _ e) e3 e4⟩,fr⟩
 ·obtain⟨b,ws,a1,a2,a3,a4,a5⟩:=s.ob i o (l _ _ e) eg
  exact⟨b,ws,a1,a2,a3,a4,a5.mono (.refl c) fr⟩
 ·obtain⟨b,ws,olds,sz,a1,a2,a3,a4,a5,a6⟩:=s.iX i vs t n (l _ _ e)
  exact⟨b,ws,olds,sz,a1,a2,a3,a4,a5.mono (.refl c) fr,a6⟩
 ·obtain⟨N,hN⟩:=s.room
  refine⟨N,λj hj=>?_⟩;obtain⟨a1,a2,a3⟩:=hN j hj;refine⟨?_,a2,a3⟩;cases e:h' j with
  | none=>rfl
  | some o=>rw [l _ _ e]at a1;cases a1
theorem VS.frz(s:VS P B Sbz c h S)(l:cP h' h){v:V}{x:Dt}(k:Au h' h v x):∀{w:Value},fI c S (cY B c h) v w->WE S (cY B c h') x w:=by
 have fr:=(s.drop l).2
 have dead:∀{i b:Nat},rO c h i b->h' i=none->¬cY B c h' b:=by
  intro i b l1 hn l2;rcases l2 with l2 | ⟨j,l2⟩
  ·have:=s.bB b l2;have:=(s.bd l1).1;omega
  ·have l3:rO c h j b:=by
    rcases l2 with ⟨o,e1,eg,e2⟩ | ⟨vs2,t2,n,m,e1,e2⟩
    ·exact .inl ⟨o,l _ _ e1,eg,e2⟩
    ·exact .inr ⟨vs2,t2,n,m,l _ _ e1,e2⟩
   have e:=s.inj i j b l1 l3;subst e;rcases l2 with ⟨o,e1,eg,e2⟩ | ⟨vs2,t2,n,m,e1,e2⟩<;>(rw [hn]at e1;cases e1)
 induction k with
 | int=>intro w q;cases q;exact .int
 | bool=>intro w q;cases q;exact .bool
 | str=>intro w q;cases q;exact .str
 | list=>intro w q;cases q with | list ht hd=>exact hd.mono fr
 | nil=>intro w q;cases q;exact .nil
 | @acc i n vs t cs e hn hl hr ih=>
  intro w q;cases q with
  | acc q=>
   obtain⟨b,ws,olds,sz,a1,a2,a3,a4,a5,a6⟩:=s.iX i vs t n e;rw [a1]at q;injection q with q;subst q;refine .row rfl a3 (dead (.inr ⟨vs,t,n,n,e,a1⟩) hn) a4 (by have:=a5.len;omega) (bI _) λj x v b1 b2=>?_;rw [gB]at b2;have hj:j<vs.length:=by have:=(dS.1 b1).1;omega
   exact ih j vs[j] x (aP hj) b1 (a5.rd j _ v (aP hj) b2)
 | @oR i n o k cc vs t cs e hn hc hl hr ih=>
  intro w q;cases q with
  | oR q=>
   obtain⟨b,ws,olds,sz,a1,a2,a3,a4,a5,a6⟩:=s.iX i vs t n e;rw [a1]at q;injection q with q;injection q with q;injection q with q;injection q with q;subst q;refine .row rfl a3 (dead (.inr ⟨vs,t,n,n,e,a1⟩) hn) a4 (by have:=a5.len;omega) hc λj x v b1 b2=>?_;have hj:o+j<vs.length:=by have:=(dS.1 b1).1;omega
   exact ih j vs[o+j] x (aP hj) b1 (a5.rd (o+j) _ v (aP hj) b2)
 | @own i o n cc vs t cs e hn hc hl hr ih=>
  intro w q;cases q with
  | own q=>
   obtain⟨b,ws,a1,a2,a3,a4,a5⟩:=s.row i vs t e;rw [a1]at q;injection q with q;subst q;refine .row rfl a3 (dead (.inl ⟨_,e,rfl,a1⟩) hn) a4 (by have:=a5.len;omega) hc λj x v b1 b2=>?_;have hj:o+j<vs.length:=by have:=(dS.1 b1).1;omega
   exact ih j vs[o+j] x (aP hj) b1 (a5.rd (o+j) _ v (aP hj) b2)
theorem VS.names(s:VS P B Sbz c h S)(ws:List Value):∃(d:Cx) (O:Nat->Tag),c.le d/\VS P B Sbz d h S/\cY B d h=cY B c h/\∀(k:Nat) (w:Value),ws[k]? =some w->ND d S (cY B d h) (O k) w:=by
 obtain⟨M,hM⟩:=s.RD
 let d:Cx:=⟨c.Z,c.G,λk=>if k<M then c.Yz k else ws[k-M]?,c.n0⟩
 have le:c.le d:=by
  refine⟨λ_ _ e=>e,λ_ _ _ e=>e,λk v e=>?_,rfl⟩;show(if k<M then c.Yz k else ws[k-M]?)=some v;by_cases hk:k<M
  ·rw [if_pos hk];exact e
  ·rw [hM k (by omega)]at e;cases e
 have fr:AZ (cY B c h) S S (cY B d h):=⟨bI _,λ_ _ _=>rfl,λ_ k=> .inl k⟩;refine⟨d,λk=> .root (M+k),le,⟨s.base,s.bB,λi o e eg=>?_,λi vs t n e=>?_,s.inj,s.Gs,s.room,⟨M+ws.length,λk hk=>?_⟩,s.Gb,s.old⟩,rfl,λk w e=> .root ?_⟩
 ·obtain⟨b,ws,a1,a2,a3,a4,a5⟩:=s.ob i o e eg
  exact⟨b,ws,a1,a2,a3,a4,a5.mono le fr⟩
 ·obtain⟨b,ws,olds,sz,a1,a2,a3,a4,a5,a6⟩:=s.iX i vs t n e
  exact⟨b,ws,olds,sz,a1,a2,a3,a4,a5.mono le fr,a6⟩
 ·show(if k<M then c.Yz k else ws[k-M]?)=none
  rw [if_neg (by omega),GH (by omega)]
 ·show(if M+k<M then c.Yz (M+k)else ws[M+k-M]?)=some w
  rw [if_neg (by omega),aBC];exact e
theorem VS.aCN(s:VS P B Sbz c h S){i:Nat}(h0:h i=none)(h1:c.Z i=none)(h2:∀n,c.G i n=none){vs:List V}{ws:List Value}{t:TypeId}{sz n:Nat}(hs:bP P t=some sz)(hn:vs.length=n*sz)(hv:kW c S (cY B c h) vs ws):
 let w:Value:= .slice (some ⟨S.n,0,some 0⟩) n n
 VS P B Sbz (c.putG i n w) (aM h i (.iX vs t n)) (S.new (.cells ws t (.grown [])))/\c.le (c.putG i n w)/\AZ (cY B c h) S (S.new (.cells ws t (.grown []))) (cY B (c.putG i n w) (aM h i (.iX vs t n)))/\(c.putG i n w).G i n=some w:=by
 intro w;have le:=Cx.putG_le (c:=c) (i:=i) (n:=n) (w:=w) (h2 n)
 have TH:∀j b,rO (c.putG i n w) (aM h i (.iX vs t n)) j b->(j=i/\b=S.n)\/(j≠i/\rO c h j b):=by
  intro j b l;by_cases e:j=i
  ·subst e
   rcases l with ⟨o',e1,eg,e2⟩ | ⟨vs',t',n',m,e1,e2⟩
   ·rw [aB]at e1;injection e1 with e1;subst e1;cases eg
   ·have e2:(if j=j/\m=n then some w else c.G j m)=_:=e2
    by_cases hm:m=n
    ·rw [if_pos ⟨rfl,hm⟩]at e2
     injection e2 with e2;injection e2 with e2;injection e2 with e2;injection e2 with e2;exact .inl ⟨rfl,e2.symm⟩
    ·rw [if_neg (λx=>hm x.2),h2]at e2;cases e2
  ·refine .inr ⟨e,?_⟩
   rcases l with ⟨o',e1,eg,e2⟩ | ⟨vs',t',n',m,e1,e2⟩
   ·rw [aC e]at e1
    exact .inl ⟨o',e1,eg,e2⟩
   ·rw [aC e]at e1
    have e2:(if j=i/\m=n then some w else c.G j m)=_:=e2;rw [if_neg (λx=>e x.1)]at e2;exact .inr ⟨vs',t',n',m,e1,e2⟩
 have fr:AZ (cY B c h) S (S.new (.cells ws t (.grown []))) (cY B (c.putG i n w) (aM h i (.iX vs t n))):=by
  refine⟨Jd _,λj hj _=>gV (Nat.ne_of_lt hj),λb l=>?_⟩;rcases l with l | ⟨j,l⟩
  ·exact .inl (.inl l)
  ·rcases TH j b l with ⟨_,e⟩ | ⟨_,l⟩
   ·exact .inr (Jc e.symm)
   ·exact .inl (.inr ⟨j,l⟩)
 refine⟨⟨s.base.trans (.new S _),s.bB,?_,?_,?_,?_,?_,s.RD,?_,?_⟩,le,fr,if_pos ⟨rfl,rfl⟩⟩
 ·intro j o' e eg
  have e2:j≠i:=λe2=>by subst e2;rw [aB]at e;injection e with e;subst e;cases eg
  rw [aC e2]at e;obtain⟨b,ws',a1,a2,a3,a4,a5⟩:=s.ob j o' e eg;exact⟨b,ws',a1,a2,oT a3,by rw [gV (by omega)];exact a4,a5.mono le fr⟩
 ·intro j vs' t' m e
  by_cases e2:j=i
  ·subst e2
   rw [aB]at e;injection e with e;injection e with e3 e4 e5;subst e3 e4 e5;refine⟨S.n,ws,[],sz,if_pos ⟨rfl,rfl⟩,s.base.n,xS _,sO,hv.mono le fr,hs,hn,λm hm=>?_⟩;show(if j=j/\m=n then some w else c.G j m)=none;rw [if_neg (λx=>by omega)];exact h2 m
  ·rw [aC e2]at e
   obtain⟨b,ws',olds,sz',a1,a2,a3,a4,a5,a6,a7,a8⟩:=s.iX j vs' t' m e;refine⟨b,ws',olds,sz',le.G _ _ _ a1,a2,oT a3,by rw [gV (by omega)];exact a4,a5.mono le fr,a6,a7,λq hq=>?_⟩;show(if j=i/\q=n then some w else c.G j q)=none;rw [if_neg (λx=>e2 x.1)];exact a8 q hq
 ·intro j k b l1 l2
  rcases TH j b l1 with ⟨e1,e2⟩ | ⟨e1,l1⟩
  ·rcases TH k b l2 with ⟨e3,e4⟩ | ⟨e3,l2⟩
   ·rw [e1,e3]
   ·have:=(s.bd l2).2;omega
  ·rcases TH k b l2 with ⟨e3,e4⟩ | ⟨e3,l2⟩
   ·have:=(s.bd l1).2;omega
   ·exact s.inj j k b l1 l2
 ·intro j m u e
  have e:(if j=i/\m=n then some w else c.G j m)=some u:=e;by_cases e2:j=i/\m=n
  ·rw [if_pos e2]at e;injection e with e;exact⟨S.n,by rw [<-e,e2.2]⟩
  ·rw [if_neg e2]at e;exact s.Gs j m u e
 ·obtain⟨N,hN⟩:=s.room
  refine⟨max N (i+1),λj hj=>?_⟩;obtain⟨a1,a2,a3⟩:=hN j (by omega);exact⟨by rw [aC (by omega)];exact a1,a2,λm=>by show(if j=i/\m=n then some w else c.G j m)=none;rw [if_neg (λx=>by omega)];exact a3 m⟩
 ·intro j vs' t' n' m b e e3
  have e3:(if j=i/\m=n then some w else c.G j m)=_:=e3;by_cases e2:j=i/\m=n
  ·rw [if_pos e2]at e3
   injection e3 with e3;injection e3 with e3;injection e3 with e3;injection e3 with e3;rw [<-e3];exact⟨s.base.n,xS _⟩
  ·rw [if_neg e2]at e3
   by_cases e4:j=i
   ·have e5:=e4▸h2 m;rw [e5]at e3;cases e3
   ·rw [aC e4]at e
    obtain⟨q1,q2⟩:=s.Gb j vs' t' n' m b e e3;exact⟨q1,oT q2⟩
 ·intro j vs' t' n' b ws' e' olds e e3 e5 x hx
  have e3:(if j=i/\n'=n then some w else c.G j n')=_:=e3;by_cases e4:j=i
  ·subst e4
   by_cases e6:n'=n
   ·rw [if_pos ⟨rfl,e6⟩]at e3
    injection e3 with e3;injection e3 with e3;injection e3 with e3;injection e3 with e3;rw [<-e3,sO]at e5;injection e5 with e5;injection e5 with _ _ e5;injection e5 with e5;rw [<-e5]at hx;cases hx
   ·rw [if_neg (λx=>e6 x.2),h2]at e3;cases e3
  ·rw [if_neg (λx=>e4 x.1)]at e3
   rw [aC e4]at e;rw [gV (by have:=(s.Gb j vs' t' n' n' b e e3).2;omega)]at e5;obtain⟨m,hm⟩:=s.old j vs' t' n' b ws' e' olds e e3 e5 x hx;exact⟨m,le.G _ _ _ hm⟩
theorem VS.aEj(s:VS P B Sbz c h S){i n m b:Nat}{vs nv:List V}{t:TypeId}{sz:Nat}{ws nw:List Value}{olds:List Nat}(h0:h i=some (.iX vs t n))(hb:c.G i n=some (.slice (some ⟨b,0,some 0⟩) n n))(ho:S.obj b=some (.cells ws t (.grown olds)))(hs:bP P t=some sz)
 (hn:nv.length=m*sz) (hm:0<m) (GU:vs.length=n*sz) (hvw:kW c S (cY B c h) vs ws) (hv:kW c S (cY B c h) nv nw):
 let w:Value:= .slice (some ⟨S.n,0,some 0⟩) (n+m) (n+m)
 let S':=(S.set b (.cells ws t .sA)).new (.cells (ws++nw) t (.grown (b::olds)))
 VS P B Sbz (c.putG i (n+m) w) (aM h i (.iX (vs++nv) t (n+m))) S'/\c.le (c.putG i (n+m) w)/\AZ (cY B c h) S S' (cY B (c.putG i (n+m) w) (aM h i (.iX (vs++nv) t (n+m))))/\(c.putG i (n+m) w).G i (n+m)=some w:=by
 intro w S';obtain⟨b',_,_,_,q1,_,_,_,_,_,_,q8⟩:=s.iX i vs t n h0;have hlb:rO c h i b:= .inr ⟨vs,t,n,n,h0,hb⟩;obtain⟨g1,g2⟩:=s.bd hlb;have le:=Cx.putG_le (c:=c) (i:=i) (n:=n+m) (w:=w) (q8 _ (by omega));have hSn:(S.set b (.cells ws t .sA)).n=S.n:=rfl
 have TH:∀j x,rO (c.putG i (n+m) w) (aM h i (.iX (vs++nv) t (n+m))) j x->(j=i/\x=S.n)\/rO c h j x:=by
  intro j x l;by_cases e:j=i
  ·subst e
   rcases l with ⟨o',e1,eg,e2⟩ | ⟨vs',t',n',k,e1,e2⟩
   ·rw [aB]at e1;injection e1 with e1;subst e1;cases eg
   ·have e2:(if j=j/\k=n+m then some w else c.G j k)=_:=e2
    by_cases hk:k=n+m
    ·rw [if_pos ⟨rfl,hk⟩]at e2
     injection e2 with e2;injection e2 with e2;injection e2 with e2;injection e2 with e2;exact .inl ⟨rfl,e2.symm⟩
    ·rw [if_neg (λx=>hk x.2)]at e2
     exact .inr (.inr ⟨vs,t,n,k,h0,e2⟩)
  ·refine .inr ?_
   rcases l with ⟨o',e1,eg,e2⟩ | ⟨vs',t',n',k,e1,e2⟩
   ·rw [aC e]at e1
    exact .inl ⟨o',e1,eg,e2⟩
   ·rw [aC e]at e1
    have e2:(if j=i/\k=n+m then some w else c.G j k)=_:=e2;rw [if_neg (λx=>e x.1)]at e2;exact .inr ⟨vs',t',n',k,e1,e2⟩
 have fr:AZ (cY B c h) S S' (cY B (c.putG i (n+m) w) (aM h i (.iX (vs++nv) t (n+m)))):=by
  refine⟨Jd _,λj hj hc=>?_,λx l=>?_⟩
  ·show((S.set b _).new _).obj j=_
   rw [gV (by rw [hSn];omega),kZ (show j≠b from λe=>hc (.inr ⟨i,e▸hlb⟩))]
  ·rcases l with l | ⟨j,l⟩
   ·exact .inl (.inl l)
   ·rcases TH j x l with ⟨_,e⟩ | l
    ·exact .inr (Jc e.symm)
    ·exact .inl (.inr ⟨j,l⟩)
 have oth:∀j x,j≠i->rO c h j x->S'.obj x=S.obj x:=λj x e l=>by
  have:x≠b:=λe3=>e (s.inj j i b (e3▸l) hlb);show((S.set b _).new _).obj x=_;rw [gV (by rw [hSn];have:=(s.bd l).2;omega),kZ this]
 refine⟨⟨⟨Nat.le_succ_of_le s.base.n,λj hj=>?_⟩,s.bB,?_,?_,?_,?_,?_,s.RD,?_,?_⟩,le,fr,if_pos ⟨rfl,rfl⟩⟩
 ·have:=s.base.n
  show((S.set b _).new _).obj j=_;rw [gV (by rw [hSn];omega),kZ (by omega)];exact s.base.same j hj
 ·intro j o' e eg
  have e2:j≠i:=λe2=>by subst e2;rw [aB]at e;injection e with e;subst e;cases eg
  rw [aC e2]at e;obtain⟨x,ws',a1,a2,a3,a4,a5⟩:=s.ob j o' e eg;exact⟨x,ws',a1,a2,oT a3,by rw [oth j x e2 (.inl ⟨o',e,eg,a1⟩)];exact a4,a5.mono le fr⟩
 ·intro j vs' t' k e
  by_cases e2:j=i
  ·subst e2
   rw [aB]at e;injection e with e;injection e with e3 e4 e5;subst e3 e4 e5;refine⟨S.n,ws++nw,b::olds,sz,if_pos ⟨rfl,rfl⟩,s.base.n,xS _,?_,(hvw.app hv).mono le fr,hs,by rw [bH,GU,hn,mG],λq hq=>?_⟩
   ·show((S.set b _).new _).obj (S.set b (.cells ws t .sA)).n=_
    exact sO
   ·show(if j=j/\q=n+m then some w else c.G j q)=none
    rw [if_neg (λx=>by omega)];exact q8 q (by omega)
  ·rw [aC e2]at e
   obtain⟨x,ws',Fi,sz',a1,a2,a3,a4,a5,a6,a7,a8⟩:=s.iX j vs' t' k e;refine⟨x,ws',Fi,sz',le.G _ _ _ a1,a2,oT a3,by rw [oth j x e2 (.inr ⟨vs',t',k,k,e,a1⟩)];exact a4,a5.mono le fr,a6,a7,λq hq=>?_⟩;show(if j=i/\q=n+m then some w else c.G j q)=none;rw [if_neg (λx=>e2 x.1)];exact a8 q hq
 ·intro j k x l1 l2
  rcases TH j x l1 with ⟨e1,e2⟩ | l1
  ·rcases TH k x l2 with ⟨e3,e4⟩ | l2
   ·rw [e1,e3]
   ·have:=(s.bd l2).2;omega
  ·rcases TH k x l2 with ⟨e3,e4⟩ | l2
   ·have:=(s.bd l1).2;omega
   ·exact s.inj j k x l1 l2
 ·intro j k u e
  have e:(if j=i/\k=n+m then some w else c.G j k)=some u:=e;by_cases e2:j=i/\k=n+m
  ·rw [if_pos e2]at e;injection e with e;exact⟨S.n,by rw [<-e,e2.2]⟩
  ·rw [if_neg e2]at e;exact s.Gs j k u e
 ·obtain⟨N,hN⟩:=s.room
  refine⟨max N (i+1),λj hj=>?_⟩;obtain⟨a1,a2,a3⟩:=hN j (by omega);exact⟨by rw [aC (by omega)];exact a1,a2,λq=>by show(if j=i/\q=n+m then some w else c.G j q)=none;rw [if_neg (λx=>by omega)];exact a3 q⟩
 ·intro j vs' t' n' k x e e3
  rcases TH j x (.inr ⟨vs',t',n',k,e,e3⟩)with ⟨_,e4⟩ | l
  ·rw [e4];exact⟨s.base.n,xS _⟩
  ·obtain⟨q1,q2⟩:=s.bd l
   exact⟨q1,oT q2⟩
 ·intro j vs' t' n' x ws' e' Fi e e3 e5 y hy
  have e3:(if j=i/\n'=n+m then some w else c.G j n')=_:=e3;by_cases e4:j=i
  ·subst e4
   rw [aB]at e;injection e with e;injection e with _ _ e6;rw [if_pos ⟨rfl,e6.symm⟩]at e3;injection e3 with e3;injection e3 with e3;injection e3 with e3;injection e3 with e3
   have e7:S'.obj S.n=some (.cells (ws++nw) t (.grown (b::olds))):=by
    show((S.set b _).new _).obj (S.set b (.cells ws t .sA)).n=_;exact sO
   rw [<-e3,e7]at e5;injection e5 with e5;injection e5 with _ _ e5;injection e5 with e5;rw [<-e5]at hy;rcases dA.1 hy with rfl | hy
   ·exact⟨n,le.G _ _ _ hb⟩
   ·obtain⟨q,hq⟩:=s.old j vs t n b ws t olds h0 hb ho y hy
    exact⟨q,le.G _ _ _ hq⟩
  ·rw [if_neg (λx=>e4 x.1)]at e3
   rw [aC e4]at e;rw [oth j x e4 (.inr ⟨vs',t',n',n',e,e3⟩)]at e5;obtain⟨q,hq⟩:=s.old j vs' t' n' x ws' e' Fi e e3 e5 y hy;exact⟨q,le.G _ _ _ hq⟩
theorem VS.aIa(s:VS P B Sbz c h S){i n b:Nat}{vs vs':List V}{t:TypeId}{ws ws':List Value}{olds ol kl:List Nat}(Ej:∀x∈ol,x∈olds)(hkl:∀x∈kl,x∈olds)(h0:h i=some (.iX vs t n))(hb:c.G i n=some (.slice (some ⟨b,0,some 0⟩) n n))(ho:S.obj b=some (.cells ws t (.grown olds)))(hl:vs'.length=vs.length)(hv:kW c S (cY B c h) vs' ws'){S':St}
 (hn:S'.n=S.n) (hs:∀j,S'.obj j=if j=b then some (.cells ws' t (.grown ol))else if j∈kl then some .dead else S.obj j):
 VS P B Sbz c (aM h i (.iX vs' t n)) S'/\AZ (cY B c h) S S' (cY B c (aM h i (.iX vs' t n))):=by
 have hlb:rO c h i b:= .inr ⟨vs,t,n,n,h0,hb⟩
 have hold:∀x∈olds,rO c h i x:=λx hx=>by
  obtain⟨m,hm⟩:=s.old i vs t n b ws t olds h0 hb ho x hx;exact .inr ⟨vs,t,n,m,h0,hm⟩
 have TH:∀j x,rO c (aM h i (.iX vs' t n)) j x->rO c h j x:=by
  intro j x l;by_cases e:j=i
  ·subst e
   rcases l with ⟨o',e1,eg,e2⟩ | ⟨vs2,t2,n',m,e1,e2⟩
   ·rw [aB]at e1;injection e1 with e1;subst e1;cases eg
   ·exact .inr ⟨vs,t,n,m,h0,e2⟩
  ·rcases l with ⟨o',e1,eg,e2⟩ | ⟨vs2,t2,n',m,e1,e2⟩
   ·rw [aC e]at e1;exact .inl ⟨o',e1,eg,e2⟩
   ·rw [aC e]at e1;exact .inr ⟨vs2,t2,n',m,e1,e2⟩
 have same:∀x,¬rO c h i x->S'.obj x=S.obj x:=λx hx=>by
  rw [hs,if_neg (λe:x=b=>hx (e▸hlb)),if_neg (λe=>hx (hold x (hkl x e)))]
 have oth:∀j x,j≠i->rO c h j x->S'.obj x=S.obj x:=λj x e l=>same x λl2=>e (s.inj j i x l l2)
 have fr:AZ (cY B c h) S S' (cY B c (aM h i (.iX vs' t n))):=by
  refine⟨Jc hn.symm,λj _ hc=>same j λl=>hc (.inr ⟨i,l⟩),λx l=>?_⟩;rcases l with l | ⟨j,l⟩
  ·exact .inl (.inl l)
  ·exact .inl (.inr ⟨j,TH j x l⟩)
 refine⟨⟨⟨by rw [hn];exact s.base.n,λj hj=>?_⟩,s.bB,?_,?_,λj k x l1 l2=>s.inj j k x (TH j x l1) (TH k x l2),s.Gs,?_,s.RD,?_,?_⟩,fr⟩
 ·rw [same j λl=>by have:=(s.bd l).1;omega];exact s.base.same j hj
 ·intro j o' e eg
  have e2:j≠i:=λe2=>by subst e2;rw [aB]at e;injection e with e;subst e;cases eg
  rw [aC e2]at e;obtain⟨x,a',a1,a2,a3,a4,a5⟩:=s.ob j o' e eg;exact⟨x,a',a1,a2,by rw [hn];exact a3,by rw [oth j x e2 (.inl ⟨o',e,eg,a1⟩)];exact a4,a5.mono (.refl c) fr⟩
 ·intro j vs2 t2 k e
  by_cases e2:j=i
  ·subst e2
   rw [aB]at e;injection e with e;injection e with e3 e4 e5;subst e3 e4 e5;obtain⟨x,ws2,Fi,sz',a1,a2,a3,a4,a5,a6,a7,a8⟩:=s.iX j vs t n h0;rw [hb]at a1;injection a1 with a1;injection a1 with a1;injection a1 with a1;injection a1 with a1;subst a1;exact⟨b,ws',ol,sz',hb,a2,by rw [hn];exact a3,by rw [hs,if_pos rfl],hv.mono (.refl c) fr,a6,by rw [hl];exact a7,a8⟩
  ·rw [aC e2]at e
   obtain⟨x,ws2,Fi,sz',a1,a2,a3,a4,a5,a6⟩:=s.iX j vs2 t2 k e;exact⟨x,ws2,Fi,sz',a1,a2,by rw [hn];exact a3,by rw [oth j x e2 (.inr ⟨vs2,t2,k,k,e,a1⟩)];exact a4,a5.mono (.refl c) fr,a6⟩
 ·obtain⟨N,hN⟩:=s.room
  refine⟨N,λj hj=>?_⟩;obtain⟨a1,a2,a3⟩:=hN j hj;have:j≠i:=λe=>by subst e;rw [h0]at a1;cases a1
  exact⟨by rw [aC this];exact a1,a2,a3⟩
 ·intro j vs2 t2 k m x e e3
  rw [hn];exact s.bd (TH j x (.inr ⟨vs2,t2,k,m,e,e3⟩))
 ·intro j vs2 t2 k x ws2 e' Fi e e3 e5 y hy
  by_cases e2:j=i
  ·subst e2
   rw [aB]at e;injection e with e;injection e with _ _ e6;subst e6;rw [hb]at e3;injection e3 with e3;injection e3 with e3;injection e3 with e3;injection e3 with e3;subst e3;rw [hs,if_pos rfl]at e5;injection e5 with e5;injection e5 with _ _ e5;injection e5 with e5;rw [<-e5]at hy;exact s.old j vs t n b ws t olds h0 hb ho y (Ej y hy)
  ·rw [aC e2]at e
   rw [oth j x e2 (.inr ⟨vs2,t2,k,k,e,e3⟩)]at e5;exact s.old j vs2 t2 k x ws2 e' Fi e e3 e5 y hy
end
section
variable{α:Type}
theorem aAF(t:Tr α):∀(n:Nat) (k:α->Prop),aFF t n k->∃x,t.get n=some x/\k x:=by
 induction t with
 | leaf=>intro n k h;cases h
 | node v l r ihl ihr=>
  intro n k h;cases n with
  | zero=>
   cases v with
   | none=>cases h
   | some x=>exact⟨x,rfl,h⟩
  | succ p=>
   have h:oU (Nat.mod p 2) (aFF l (Nat.div p 2) k) (λ_=>aFF r (Nat.div p 2) k):=h;have hm:p%2=0\/p%2=1:=by omega
   rcases hm with hm | hm
   ·have:Nat.mod p 2=0:=hm
    rw [this]at h;obtain⟨x,e1,e2⟩:=ihl _ _ (show aFF l (Nat.div p 2) k from h);refine⟨x,?_,e2⟩;have e3:(p+1) / 2=Nat.div p 2:=by show _=p / 2;omega
    simp only [Tr.get,JY,KA,and_false,if_false,show(p+1)%2=1 by omega,if_true,e3];exact e1
   ·have:Nat.mod p 2=0+1:=hm
    rw [this]at h;obtain⟨x,e1,e2⟩:=ihr _ _ (show aFF r (Nat.div p 2) k from h);refine⟨x,?_,e2⟩;have e3:(p+1) / 2-1=Nat.div p 2:=by show _=p / 2;omega
    simp only [Tr.get,JY,KA,and_false,if_false,show ¬(p+1)%2=1 by omega,e3];exact e1
theorem aIb(t:Tr α){k:Prop}:∀(n:Nat),aFH t n k->t.get n=none/\k:=by
 induction t with
 | leaf=>intro n h;exact⟨rfl,h⟩
 | node v l r ihl ihr=>
  intro n h;cases n with
  | zero=>
   cases v with
   | none=>exact⟨rfl,h⟩
   | some x=>cases h
  | succ p=>
   have h:oU (Nat.mod p 2) (aFH l (Nat.div p 2) k) (λ_=>aFH r (Nat.div p 2) k):=h;have hm:p%2=0\/p%2=1:=by omega
   rcases hm with hm | hm
   ·have:Nat.mod p 2=0:=hm
    rw [this]at h;obtain⟨e1,e2⟩:=ihl _ (show aFH l (Nat.div p 2) k from h);refine⟨?_,e2⟩;have e3:(p+1) / 2=Nat.div p 2:=by show _=p / 2;omega
    simp only [Tr.get,JY,KA,and_false,if_false,show(p+1)%2=1 by omega,if_true,e3];exact e1
   ·have:Nat.mod p 2=0+1:=hm
    rw [this]at h;obtain⟨e1,e2⟩:=ihr _ (show aFH r (Nat.div p 2) k from h);refine⟨?_,e2⟩;have e3:(p+1) / 2-1=Nat.div p 2:=by show _=p / 2;omega
    simp only [Tr.get,JY,KA,and_false,if_false,show ¬(p+1)%2=1 by omega,e3];exact e1
theorem aKA(t:Tr α):∀(n:Nat) (k:Tr α->Prop),aH3 t n k=k (t.del n):=by
 induction t with
 | leaf=>intro n k;rfl
 | node v l r il ir=>
  intro n k;cases n with
  | zero=>rfl
  | succ p=>
   show oU (p%2) (aH3 l (p / 2) λc=>k (.node v c r)) (λ_=>aH3 r (p / 2) λc=>k (.node v l c))=_;rw [il,ir];have aGR:p+1≠0:=by omega
   simp only [Tr.del,if_neg aGR];rcases Nat.mod_two_eq_zero_or_one p with h | h
   ·rw [h,if_pos (by omega),show(p+1) / 2=p / 2 by omega];rfl
   ·rw [h,if_neg (by omega),show(p+1) / 2-1=p / 2 by omega];rfl
theorem aKB(x:α):∀(f:Nat) (t:Tr α) (n:Nat) (k:Tr α->Prop),aFG x f t n k=k (Tr.FE x f t n):=by
 intro f;induction f with
 | zero=>intro t n k;rfl
 | succ f ih=>
  intro t n k;cases t with
  | leaf=>
   cases n with
   | zero=>rfl
   | succ p=>
    show oU (Nat.mod p 2) (aFG x f .leaf (Nat.div p 2) λc=>k (.node none c .leaf)) (λ_=>aFG x f .leaf (Nat.div p 2) λc=>k (.node none .leaf c))=_;rw [ih,ih];have hm:p%2=0\/p%2=1:=by omega
    rcases hm with hm | hm
    ·have:Nat.mod p 2=0:=hm
     rw [this];have e3:(p+1) / 2=Nat.div p 2:=by show _=p / 2;omega
     simp only [Tr.FE,JY,KA,and_false,if_false,show(p+1)%2=1 by omega,if_true,e3];rfl
    ·have:Nat.mod p 2=0+1:=hm
     rw [this];have e3:(p+1) / 2-1=Nat.div p 2:=by show _=p / 2;omega
     simp only [Tr.FE,JY,KA,and_false,if_false,show ¬(p+1)%2=1 by omega,e3];rfl
  | node v l r=>
   cases n with
   | zero=>rfl
   | succ p=>
    show oU (Nat.mod p 2) (aFG x f l (Nat.div p 2) λc=>k (.node v c r)) (λ_=>aFG x f r (Nat.div p 2) λc=>k (.node v l c))=_;rw [ih,ih];have hm:p%2=0\/p%2=1:=by omega
    rcases hm with hm | hm
    ·have:Nat.mod p 2=0:=hm
     rw [this];have e3:(p+1) / 2=Nat.div p 2:=by show _=p / 2;omega
     simp only [Tr.FE,JY,KA,and_false,if_false,show(p+1)%2=1 by omega,if_true,e3];rfl
    ·have:Nat.mod p 2=0+1:=hm
     rw [this];have e3:(p+1) / 2-1=Nat.div p 2:=by show _=p / 2;omega
     simp only [Tr.FE,JY,KA,and_false,if_false,show ¬(p+1)%2=1 by omega,e3];rfl
theorem LP{l:List α}{i:Nat}{k:α->Prop}(h:ZH l i k):∃a,l[i]? =some a/\k a:=by
 unfold ZH at h;split at h
 ·rename_i a e;exact⟨a,e,h⟩
 ·cases h
end
structure Gz(c:Cx)(S:St)(C:Nat->Prop)(l:List Nat):Prop where
 n0:c.n0<=S.n
 nd:l.Nodup
 ok:∀d∈l,c.n0<=d/\d<S.n/\¬C d/\S.obj d=some .defers
theorem Gz.mono{c d:Cx}{S S':St}{C C':Nat->Prop}{m:List Nat}(k:Gz c S C m)(l:c.le d)(f:AZ C S S' C'):Gz d S' C' m:=by
 refine⟨by rw [l.n0];exact tP k.n0 f.n,k.nd,λx hx=>?_⟩;obtain⟨h1,h2,h3,h4⟩:=k.ok x hx;refine⟨by rw [l.n0];exact h1,DV h2 f.n,λh=>?_,by rw [f.same x h2 h3];exact h4⟩;rcases f.sub _ h with h | h
 ·exact h3 h
 ·omega
structure AR(c:Cx)(S:St)(C:Nat->Prop)(A:VA)(A':aO):Prop where
 n:A.tmps.n=A'.tmps.n
 g:A.g=A'.g
 marks:Gz c S C A'.marks
 got:∀i v,A.tmps.t.get i=some v->∃w,A'.tmps.t.get i=some w/\fI c S C v w
 abs:∀i,A.tmps.t.get i=none->A'.tmps.t.get i=none
section
variable{P:Program}{B:Nat->Prop}{Sbz:St}{c c' d:Cx}{h h':Hp}{S S':St}{C C':Nat->Prop}
theorem AR.mono{A:VA}{A':aO}(a:AR c S C A A')(l:c.le d)(f:AZ C S S' C'):AR d S' C' A A':=
 ⟨a.n,a.g,a.marks.mono l f,λi v e=>let⟨w,p,q⟩:=a.got i v e;⟨w,p,q.mono l f⟩,a.abs⟩
theorem AR.put{A:VA}{A':aO}(a:AR c S C A A'){i:Nat}{v:V}{w:Value}(hv:fI c S C v w):AR c S C ⟨⟨A.tmps.t.put i v,A.tmps.n⟩,A.g⟩ ⟨A'.tmps.put i w,A'.marks,A'.g⟩:=by
 refine⟨a.n,a.g,a.marks,λj x e=>?_,λj e=>?_⟩
 ·have e:(A.tmps.t.put i v).get j=some x:=e
  rw [xH]at e;show ∃w',(A'.tmps.t.put i w).get j=some w'/\_;rw [xH];by_cases hj:j=i
  ·rw [if_pos hj]at e ⊢;injection e with e;subst e;exact⟨w,rfl,hv⟩
  ·rw [if_neg hj]at e ⊢;exact a.got j x e
 ·have e:(A.tmps.t.put i v).get j=none:=e
  rw [xH]at e;show(A'.tmps.t.put i w).get j=none;rw [xH];by_cases hj:j=i
  ·rw [if_pos hj]at e;cases e
  ·rw [if_neg hj]at e ⊢;exact a.abs j e
theorem AI{A:VA}{A':aO}(a:AR c S C A A'){i:Nat}{k:V->Prop}{k':Value->Bool}(h:Oq A.tmps i k)(hk:∀v w,fI c S C v w->k v->k' w=true):SC A'.tmps i k'=true:=by
 obtain⟨v,e,hv⟩:=aAF _ _ _ h;obtain⟨w,e2,r⟩:=a.got i v e;unfold SC;rw [lV,e2];exact hk v w r hv
theorem SO{v:V}{T:Uv}{i:Nat}{k:Uv->Prop}(h:UF v T i k):i<T.n/\k ⟨T.t.put i v,T.n⟩:=by
 obtain⟨t,n⟩:=T;unfold UF at h;simp only at h;split at h
 ·rename_i hb
  rw [aKB]at h;exact⟨aW hb,h⟩
 ·cases h
theorem ZL{v:Value}{T:Tm}{i:Nat}(hi:i<T.n)(k:Tm->Bool):sB v T i k=k (T.put i v):=by
 unfold sB;rw [show Nat.blt i T.n=true from jT hi,MR];rfl
theorem Qo{A:VA}{A':aO}(a:AR c S C A A'){d:Tmp}{v:V}{w:Value}(hv:fI c S C v w){k:VA->Prop}{k':aO->Bool}(h:Lw A d v k)(hk:∀B B',AR c S C B B'->k B->k' B'=true):mA A' (some d) w k'=true:=by
 obtain⟨T,g⟩:=A;obtain⟨h1,h2⟩:=SO (show UF v T d (λT=>k ⟨T,g⟩)from h);show sB w A'.tmps d (λts=>k' ⟨ts,A'.marks,A'.g⟩)=true;rw [ZL (by rw [<-a.n];exact h1)];exact hk _ _ (a.put hv) h2
theorem aIc{v:Value}{x:V}(e:ofC v=some x):jV v=true/\fI c S C x v:=by
 unfold ofC at e;split at e
 ·rename_i cs
  split at e
  ·rename_i l hl
   injection e with e;subst e;have GU:kW c S C l cs:=SN hl;refine⟨?_,.agg GU.len GU.rd⟩;show cs.all bE=true
   have:∀(cs:List Value) (l:List V),ED cs=some l->cs.all bE=true:=by
    intro cs;induction cs with
    | nil=>intro _ _;rfl
    | cons a cs ih=>
     intro l h;unfold ED at h;split at h
     ·rename_i x hx
      split at h
      ·rename_i xs hxs
       simp only [PD,aAE hx,ih xs hxs,Bool.and_self]
      ·cases h
     ·cases h
   exact this cs l hl
  ·cases e
 ·have hf:=aAE e
  refine⟨?_,aH9 e⟩;cases v<;>first | exact hf | (simp [bE]at hf)
theorem bK{A:VA}{A':aO}(a:AR c S C A A'){x:Operand}{k:V->Prop}{k':Value->Bool}(h:(wE x).f A k)(hk:∀v w,fI c S C v w->k v->k' w=true):tC A' x k'=true:=by
 cases x with
 | tmp t=>exact AI a h hk
 | const v=>
  unfold wE at h;cases e:ofC v with
  | none=>simp only [e]at h
  | some d=>
   simp only [e]at h;obtain⟨hf,r⟩:=aIc (c:=c) (S:=S) (C:=C) e;unfold tC;simp only [hf];exact hk d v r h
 | global g=>cases h
 | func f=>exact hk _ _ (.func (a':=[]) (d':=[]) rfl rfl (λk v w e=>by simp at e) (λk v w e=>by simp at e)) h
theorem ZM{A:VA}{A':aO}(a:AR c S C A A'):∀{xs:List Operand} {k:List V->Prop} {k':List Value->Bool},(aFI xs).f A k->(∀vs ws,kW c S C vs ws->k vs->k' ws=true)->PG A' xs k'=true:=by
 intro xs;induction xs with
 | nil=>intro k k' h hk;exact hk [] [] .nil h
 | cons x xs ih=>
  intro k k' h hk;have h:(wE x).f A (λv=>(aFI xs).f A λvs=>k (v::vs)):=h;refine bK a h λv w r h=>?_;exact ih h λvs ws rs h=>hk (v::vs) (w::ws) (.cons r rs) h
theorem VS.one(s:VS P B Sbz c h S){v:V}{w:Value}(r:fI c S C v w)(ho:pN v=true):gH w=true:=by
 cases r<;>first
  | rfl
  | (simp [pN]at ho;done)
  | (rename_i e;obtain⟨b,rfl⟩:=s.Gs _ _ _ e;rfl)
  | (rename_i ht hd;cases hd<;>rfl)
theorem VS.Vc(s:VS P B Sbz c h S){vs:List V}{ws:List Value}(r:kW c S C vs ws)(ho:vs.all pN=true):ws.all gH=true:=by
 rw [dJ]at ho ⊢;intro w hw;obtain⟨k,hk⟩:=GI hw;have hl:=r.len;have hkl:=(dS.1 hk).1;exact s.one (r.rd k vs[k] w (aP (by omega)) hk) (ho _ (nO (by omega)))
theorem Ly(O:Tag):∀(l:List Dt) (o k:Nat),(Tl O o l)[k]? =(l[k]?).map λd=>T (.sub O (o+k)) d:=by
 intro l;induction l with
 | nil=>intro o k;simp [Tl]
 | cons d l ih=>
  intro o k;cases k with
  | zero=>simp [Tl]
  | succ k=>
   simp only [Tl,OW,ih];rw [show o+1+k=o+(k+1)by omega]
theorem WF(O:Tag):∀(l:List Dt) (o:Nat),(Tl O o l).length=l.length:=by
 intro l;induction l with
 | nil=>intro o;rfl
 | cons d l ih=>intro o;simp [Tl,ih]
theorem Dd{O:Tag}{cs:List Dt}{b o n cc:Nat}{sp:Option Nat}(ht:ND c S C O (.slice (some ⟨b,o,sp⟩) n cc))(hd:WE S C (.list cs n) (.slice (some ⟨b,o,sp⟩) n cc)){k m:Nat}(hk:k+m<=cs.length)(hm:0<m):
 ∃ws e ck,S.obj b=some (.cells ws e ck)/\o+k+m<=ws.length/\kW c S C (Tl O k ((cs.drop k).take m)) ((ws.drop (o+k)).take m):=by
 cases hd with
 | emp=>simp at hk;omega
 | row CW hb hC ho hl hn hr=>
  rename_i ws e ck;refine⟨ws,e,ck,ho,by omega,by rw [WF];simp;omega,λj v w e1 e2=>?_⟩;rw [Ly,kR]at e1;rw [kR]at e2;by_cases hj:j<m
  ·rw [if_pos hj,kS]at e1 e2
   cases ed:cs[k+j]? with
   | none=>rw [ed]at e1;cases e1
   | some x=>
    rw [ed]at e1;injection e1 with e1;subst e1;have hw:ws[o+(k+j)]? =some w:=by rw [<-uQ];exact e2
    exact aM1 (hr (k+j) x w ed hw) (.sub ht hb hC ho hw)
  ·rw [if_neg hj]at e2;cases e2
theorem aEk(s:VS P B Sbz c h S){a:V}{w:Value}(r:fI c S (cY B c h) a w){Kv:KV}{K:VK}(k:∀v w,fI c S (cY B c h) v w->Kv v h->K w S=true)(hv:bJ a h Kv):rLd w S K=true:=by
 unfold bJ at hv;split at hv
 ·rename_i i o
  cases r with
  | ptr hZ=>
   split at hv
   ·rename_i vs t e
    obtain⟨v,ev,hv⟩:=LP hv;obtain⟨b,ws,a1,a2,a3,a4,a5⟩:=s.row i vs t e;rw [hZ]at a1;injection a1 with a1;subst a1;obtain⟨u,eu,ru⟩:=a5.get ev;rw [aHj a4 eu];exact k v u ru hv
   ·cases hv
 ·rename_i O cs o
  cases r with
  | @rK _ _ b o0 n cc _ sp ht hd=>
   obtain⟨x,ex,hv⟩:=LP hv;have hlt:=(dS.1 ex).1;obtain⟨ws,e,ck,g1,g2,g3⟩:=Dd ht hd (k:=o) (m:=1) (by omega) (by omega);have hw:ws[o0+o]? =some (ws[o0+o]'(by omega)):=aP _;rw [aHj g1 hw];refine k _ _ (g3.rd 0 _ _ ?_ ?_) hv
   ·rw [Ly,kR,if_pos (by omega),kS,MJ,ex];rfl
   ·rw [kR,if_pos (by omega),kS,MJ];exact hw
 ·rename_i i n o
  cases r with
  | qX hGz=>
   split at hv
   ·rename_i vs t m e
    obtain⟨rfl,hv⟩:=hv;obtain⟨v,ev,hv⟩:=LP hv;obtain⟨b,ws,olds,sz,a1,a2,a3,a4,a5,a6⟩:=s.iX i vs t m e;rw [hGz]at a1;injection a1 with a1;injection a1 with a1;injection a1 with a1;injection a1 with a1;subst a1;obtain⟨u,eu,ru⟩:=a5.get ev;rw [aHj a4 eu];exact k v u ru hv
   ·cases hv
 ·cases hv
theorem aAG(s:VS P B Sbz c h S){n:Nat}(hn:0<n){a:V}{w:Value}(r:fI c S (cY B c h) a w){Kv:KV}{K:VK}(k:∀v w,fI c S (cY B c h) v w->Kv v h->K w S=true)(hv:cU n a h Kv):aG5 n w S K=true:=by
 unfold cU at hv;split at hv
 ·rename_i i o
  cases r with
  | ptr hZ=>
   split at hv
   ·rename_i vs t e
    obtain⟨hl,hv⟩:=hv;obtain⟨b,ws,a1,a2,a3,a4,a5⟩:=s.row i vs t e;rw [hZ]at a1;injection a1 with a1;subst a1;have:=a5.len;rw [aCj a4 (by omega)];exact k _ _ (.agg ((a5.drop o).take n).len ((a5.drop o).take n).rd) hv
   ·cases hv
 ·rename_i O cs o
  cases r with
  | @rK _ _ b o0 m cc _ sp ht hd=>
   obtain⟨hl,hv⟩:=hv;obtain⟨ws,e,ck,g1,g2,g3⟩:=Dd ht hd hl hn;rw [aCj g1 g2];exact k _ _ (.agg g3.len g3.rd) hv
 ·rename_i i m o
  cases r with
  | qX hGz=>
   split at hv
   ·rename_i vs t m' e
    obtain⟨rfl,hl,hv⟩:=hv;obtain⟨b,ws,olds,sz,a1,a2,a3,a4,a5,a6⟩:=s.iX i vs t m' e;rw [hGz]at a1;injection a1 with a1;injection a1 with a1;injection a1 with a1;injection a1 with a1;subst a1;have:=a5.len;rw [aCj a4 (by omega)];exact k _ _ (.agg ((a5.drop o).take n).len ((a5.drop o).take n).rd) hv
   ·cases hv
 ·cases hv
theorem NE(s:VS P B Sbz c h S){x:V}{w:Value}(r:fI c S C x w){k:List V->Prop}(hv:yD x k):∃vs ws,kW c S C vs ws/\k vs/\ws.all gH=true/\∀K:List Value->Bool,oW w K=K ws:=by
 unfold yD at hv;split at hv
 ·rename_i cs
  obtain⟨ho,hv⟩:=hv;cases r with
  | agg la ha=>
   rename_i a';have hr:kW c S C cs a':=⟨la,ha⟩;have:=s.Vc hr ho;refine⟨cs,a',hr,hv,this,λK=>?_⟩;show(match rD gH a' with | true=>K a' | false=>false)=_;rw [jZ,this]
 ·cases hv
 ·rename_i h1 h2
  have ho:pN x=true:=by cases x<;>first | rfl | exact absurd rfl (h1 _) | exact absurd rfl (h2 _)
  have:=s.one r ho;exact⟨[x],[w],.cons r .nil,hv,by simp [this],λK=>Zz this K⟩
theorem WG(s:VS P B Sbz c h S){i o b:Nat}{vs cs:List V}{ws:List Value}{t:TypeId}(e:h i=some (.row vs t))(hZ:c.Z i=some b)(g:kW c S (cY B c h) cs ws)(hl:o+cs.length<=vs.length){Kv:Hp->Prop}{K:St->Bool}(k:∀h' S',AZ (cY B c h) S S' (cY B c h')->VS P B Sbz c h' S'->Kv h'->K S'=true)(hv:Kv (aM h i (.row (aE o cs vs) t))):pW S b o ws K=true:=by
 obtain⟨b',us,a1,a2,a3,a4,a5⟩:=s.row i vs t e;rw [hZ]at a1;injection a1 with a1;subst a1;have l1:=a5.len;have l2:=g.len;unfold pW;rw [AB a4];show rF o ws us (λvs=>rE S b (.cells vs t .exact) K)=true;rw [xW,if_pos (by omega),gR];obtain⟨s1,s2⟩:=s.setRow e hZ (a5.aE g o);exact k _ _ s2 s1 hv
theorem CC(s:VS P B Sbz c h S){i n o b:Nat}{vs cs:List V}{ws:List Value}{t:TypeId}(e:h i=some (.iX vs t n))(hGz:c.G i n=some (.slice (some ⟨b,0,some 0⟩) n n))(g:kW c S (cY B c h) cs ws)(hl:o+cs.length<=vs.length){Kv:Hp->Prop}{K:St->Bool}(k:∀h' S',AZ (cY B c h) S S' (cY B c h')->VS P B Sbz c h' S'->Kv h'->K S'=true)(hv:Kv (aM h i (.iX (aE o cs vs) t n))):pW S b o ws K=true:=by
 obtain⟨b',us,olds,sz,a1,a2,a3,a4,a5,a6⟩:=s.iX i vs t n e;rw [hGz]at a1;injection a1 with a1;injection a1 with a1;injection a1 with a1;injection a1 with a1;subst a1;have l1:=a5.len;have l2:=g.len;have hsl:(aE o cs vs).length=vs.length:=by unfold aE;simp;omega
 unfold pW;rw [AB a4]
 show(IM o us λl=>match Bn ws l with
  | true=>K S
  | false=>rF o ws us λvs=>Pc olds S.h λh=>SY (.cells vs t (.grown [])) (Nat.succ b) h b λh=>K ⟨h,S.n⟩)=true
 rw [zT,if_pos (by omega)];cases hs:Bn ws (us.drop o)with
 | true=>
  obtain⟨_,q⟩:=Pt hs
  have TI:aE o ws us=us:=by
   apply uO;intro j;rw [fW _ _ _ (by omega)];split
   ·rename_i hj
    have:=q (j-o) _ (aP (by omega));rw [kS,show o+(j-o)=j by omega]at this;rw [this,aP (by omega)]
   ·rfl
  obtain⟨s1,s2⟩:=s.aIa (vs':=aE o cs vs) (ws':=us) (olds:=olds) (ol:=olds) (kl:=[]) (λ_ h=>h) (λ_ h=>by cases h) e hGz a4 hsl (by have:=a5.aE g o;rwa [TI]at this) (S':=S) rfl (λj=>by
   by_cases hj:j=b
   ·rw [if_pos hj,hj,a4]
   ·rw [if_neg hj,if_neg (by simp)])
  exact k _ _ s2 s1 hv
 | false=>
  show(rF o ws us λvs=>Pc olds S.h λh=>SY (.cells vs t (.grown [])) (Nat.succ b) h b λh=>K ⟨h,S.n⟩)=true;rw [xW,if_pos (by omega),Yd,MR]
  obtain⟨s1,s2⟩:=s.aIa (vs':=aE o cs vs) (ws':=aE o ws us) (olds:=olds) (ol:=[]) (kl:=olds) (λ_ h=>by cases h) (λ_ h=>h) e hGz a4 hsl (a5.aE g o) (S':=⟨Tr.FE (iP.cells (aE o ws us) t (CK.grown [])) b.succ (olds.foldl (λh i=>h.put i iP.dead) S.h) b,S.n⟩) rfl (λj=>by
   show Tr.get (Tr.FE _ (b+1) _ b) j=_;rw [Jt _ _ _ _ _ (xS b),Ye];rfl)
  exact k _ _ s2 s1 hv
theorem aKC(s:VS P B Sbz c h S){n:Nat}{a x:V}{w y:Value}(r:fI c S (cY B c h) a w)(q:fI c S (cY B c h) x y){Kv:Hp->Prop}{K:St->Bool}(k:∀h' S',AZ (cY B c h) S S' (cY B c h')->VS P B Sbz c h' S'->Kv h'->K S'=true)(hv:mE n a x h Kv):rSt n w y S K=true:=by
 unfold mE at hv;split at hv
 ·rename_i i o
  cases r with
  | @ptr _ _ b hZ=>
   split at hv
   ·rename_i vs t e
    obtain⟨cs,ws,g1,⟨g2,g3,g4⟩,g5,g6⟩:=NE s q hv;have l2:=g1.len;show oW y (λcs=>CU cs λm=>match Nat.beq m n with | true=>pW S b o cs K | false=>false)=true;rw [g6,kM,show Nat.beq ws.length n=true by rw [<-l2,g2];exact MK n];exact WG s e hZ g1 (by omega) k g4
   ·cases hv
 ·rename_i i q' o
  cases r with
  | @qX _ _ _ b hGz=>
   split at hv
   ·rename_i vs t m e
    obtain⟨rfl,hv⟩:=hv;obtain⟨cs,ws,g1,⟨g2,g3,g4⟩,g5,g6⟩:=NE s q hv;have l2:=g1.len;show oW y (λcs=>CU cs λm=>match Nat.beq m n with | true=>pW S b o cs K | false=>false)=true;rw [g6,kM,show Nat.beq ws.length n=true by rw [<-l2,g2];exact MK n];exact CC s e hGz g1 (by omega) k g4
   ·cases hv
 ·cases hv
end
section
variable{P:Program}{B:Nat->Prop}{Sbz:St}{c c' d:Cx}{h h':Hp}{S S':St}{C C':Nat->Prop}
def KR(P:Program)(B:Nat->Prop)(Sbz:St)(c:Cx)(h:Hp)(S:St)(Kv:KV)(K:VK):Prop:=
 ∀c' h' S' v w,c.le c'->AZ (cY B c h) S S' (cY B c' h')->VS P B Sbz c' h' S'->fI c' S' (cY B c' h') v w->Kv v h'->K w S'=true
theorem KR.here{Kv:KV}{K:VK}(k:KR P B Sbz c h S Kv K)(s:VS P B Sbz c h S){v:V}{w:Value}(r:fI c S (cY B c h) v w)(hk:Kv v h):K w S=true:=k c h S v w (.refl c) (.refl _ S) s r hk
theorem ZN(s:VS P B Sbz c h S){vs:List V}{ws:List Value}{t:TypeId}(hv:kW c S (cY B c h) vs ws){Kn:Nat->Hp->Prop}(hn:aHT vs t h Kn):
 ∃c' h' i,c.le c'/\AZ (cY B c h) S (S.new (.cells ws t .exact)) (cY B c' h')/\VS P B Sbz c' h' (S.new (.cells ws t .exact))/\c'.Z i=some S.n/\Kn i h':=by
 obtain⟨i,e1,e2,e3⟩:=s.fresh;obtain⟨a1,a2,a3,a4⟩:=s.newRow e1 e2 e3 t hv;exact⟨_,_,i,a2,a3,a1,a4,hn i e1⟩
theorem aCO(s:VS P B Sbz c h S){z:List Value}{t:TypeId}{Kv:KV}{K:VK}(k:KR P B Sbz c h S Kv K)(hv:eI z t h Kv):Ck z t S K=true:=by
 unfold eI AD at hv;split at hv
 ·rename_i l e
  obtain⟨c',h',i,a1,a2,a3,a4,a5⟩:=ZN s (SN e) hv;rw [aHl];exact k c' h' _ _ _ a1 a2 a3 (.ptr a4) a5
 ·cases hv
theorem aId(s:VS P B Sbz c h S){t:TypeId}{x:V}{w:Value}(r:fI c S (cY B c h) x w){Kv:KV}{K:VK}(k:KR P B Sbz c h S Kv K)(hv:pO t x h Kv):Xo t w S K=true:=by
 obtain⟨cs,ws,g1,g2,g3,g4⟩:=NE s r hv;obtain⟨c',h',i,a1,a2,a3,a4,a5⟩:=ZN s g1 g2;unfold Xo;rw [g4,gZ];exact k c' h' _ _ _ a1 a2 a3 (.ptr a4) a5
def PsR(c:Cx)(S:St)(C:Nat->Prop):List (Nat×Nat×V)->List (Nat×Nat×Value)->Prop
 | [],[]=>True
 | (o,n,v)::l,(o',n',w)::m=>o=o'/\n=n'/\fI c S C v w/\PsR c S C l m
 | _,_=>False
theorem Qp(s:VS P B Sbz c h S):∀{ps:List (Nat×Nat×V)} {Nq:List (Nat×Nat×Value)} {cs:List V} {cs':List Value} {k:List V->Prop} {k':List Value->Bool},PsR c S C ps Nq->kW c S C cs cs'->vD ps cs k->(∀cs cs',kW c S C cs cs'->k cs->k' cs'=true)->QP Nq cs' k'=true:=by
 intro ps;induction ps with
 | nil=>
  intro Nq cs cs' k k' hp hc hv hk
  match Nq,hp with
  | [],_=>exact hk cs cs' hc hv
 | cons p ps ih=>
  intro Nq cs cs' k k' hp hc hv hk;obtain⟨o,n,v⟩:=p
  match Nq,hp with
  | (o',n',w)::Nq,hp=>
   obtain⟨rfl,rfl,r,hp⟩:=hp;obtain⟨vs,ws,g1,⟨g2,g3,g4⟩,g5,g6⟩:=NE s r hv;have l1:=g1.len;have l2:=hc.len;show oW w (λnew=>CU new λm=>match Nat.beq m n with | true=>rF o new cs' (λcs=>QP Nq cs k') | false=>false)=true;rw [g6,kM,show Nat.beq ws.length n=true by rw [<-l1,g2];exact MK n];show rF o ws cs' (λcs=>QP Nq cs k')=true;rw [xW,if_pos (by omega)];exact ih hp (hc.aE g1 o) g4 hk
theorem WH{A:VA}{A':aO}(a:AR c S C A A'){place:Nat->Option (Nat×Nat)}:∀{ps:List (Nat×Operand)} {k:List (Nat×Nat×V)->Prop} {k':List (Nat×Nat×Value)->Bool},(Dc place ps).f A k->(∀l l',PsR c S C l l'->k l->k' l'=true)->(HA place ps).f A' k'=true:=by
 intro ps;induction ps with
 | nil=>intro k k' hv hk;exact hk [] [] trivial hv
 | cons p ps ih=>
  intro k k' hv hk
  have e1:Dc place (p::ps)=match place p.1 with
   | some (off,size)=>⟨λA k=>(wE p.2).f A λv=>(Dc place ps).f A λl=>k ((off,size,v)::l)⟩
   | none=>⟨λ_ _=>False⟩:=rfl
  have e2:HA place (p::ps)=match place p.1 with
   | some (off,size)=>⟨λA k=>(xI p.2).f A λv=>(HA place ps).f A λl=>k ((off,size,v)::l)⟩
   | none=>⟨λ_ _=>false⟩:=rfl
  rw [e1]at hv;rw [e2];cases hp:place p.1 with
  | none=>rw [hp]at hv;cases hv
  | some q=>
   obtain⟨off,size⟩:=q;rw [hp]at hv;simp only at hv ⊢;rw [kT];refine bK a hv λv w r hv=>?_;exact ih hv λl l' hl h=>hk ((off,size,v)::l) ((off,size,w)::l') ⟨rfl,rfl,r,hl⟩ h
theorem Lz(s:VS P B Sbz c h S){z:List Value}{ps:List (Nat×Nat×V)}{Nq:List (Nat×Nat×Value)}(hp:PsR c S C ps Nq){Kv:V->Prop}{K:Value->Bool}(k:∀v w,fI c S C v w->Kv v->K w=true)(hv:fX z ps Kv):aCg z Nq K=true:=by
 unfold fX AD at hv;split at hv
 ·rename_i l e
  exact Qp s hp (SN e) hv λcs cs' r h=>k _ _ (.agg r.len r.rd) h
 ·cases hv
theorem aAH(s:VS P B Sbz c h S){el n:Nat}{z:List Value}{ps:List (Nat×Nat×V)}{Nq:List (Nat×Nat×Value)}(hp:PsR c S (cY B c h) ps Nq){Kv:KV}{K:VK}(k:KR P B Sbz c h S Kv K)(hv:dN el n z ps h Kv):Ub el n z Nq S K=true:=by
 unfold dN AD at hv;split at hv
 ·rename_i l e
  unfold Ub;rw [CL];refine Qp s hp ((SN e).flatten n) hv λcs cs' r hv=>?_;obtain⟨c',h',i,a1,a2,a3,a4,a5⟩:=ZN s r hv;rw [gZ];exact k c' h' _ _ _ a1 a2 a3 (.own a4) a5
 ·cases hv
theorem aIe{off:Nat}{x:V}{w:Value}(r:fI c S C x w){Kv:V->Prop}{K:Value->Bool}(k:∀v w,fI c S C v w->Kv v->K w=true)(hv:bF off x Kv):aG6 off w K=true:=by
 unfold bF at hv;split at hv
 ·cases r with | ptr e=>rw [aCi];exact k _ _ (.ptr e) hv
 ·cases r with | rK ht hd=>rw [aCi,uQ];exact k _ _ (.rK ht hd) hv
 ·cases r with | qX e=>rw [aCi];exact k _ _ (.qX e) hv
 ·cases hv
theorem aCP{off:Nat}{x:V}{w:Value}(r:fI c S C x w){Kv:V->Prop}{K:Value->Bool}(k:∀v w,fI c S C v w->Kv v->K w=true)(hv:aCE off x Kv):La off w K=true:=by
 unfold aCE at hv;split at hv
 ·cases r with
  | agg la ha=>
   obtain⟨v,e,hv⟩:=LP hv;obtain⟨u,eu,ru⟩:=kW.get ⟨la,ha⟩ e;rw [aHk eu];exact k v u ru hv
 ·cases hv
theorem aAI{off n:Nat}{x:V}{w:Value}(r:fI c S C x w){Kv:V->Prop}{K:Value->Bool}(k:∀v w,fI c S C v w->Kv v->K w=true)(hv:Uo off n x Kv):YQ off n w K=true:=by
 unfold Uo at hv;split at hv
 ·cases r with
  | agg la ha=>
   obtain⟨hl,hv⟩:=hv;have hr:kW c S C _ _:=⟨la,ha⟩;rw [aFg (by omega)];exact k _ _ (.agg ((hr.drop off).take n).len ((hr.drop off).take n).rd) hv
 ·cases hv
theorem Vd{t:TypeId}{len n:Nat}(h:aKu P t=some (len,n)){b o i:Nat}{kk:IntKind}(hi:i<len)(K:Value->Bool):sK P t (.pointer (some ⟨b,o,none⟩)) (.int kk (.ofNat i)) K=K (.pointer (some ⟨b,o+i*n,none⟩)):=by
 have hlt:Nat.blt i len=true:=jT hi;unfold aKu at h;unfold sK;cases hu:P.underlying t with
 | none=>rw [hu]at h;cases h
 | some td=>
  rw [hu]at h;cases td with
  | array l e=>
   dsimp only at h;cases hs:bP P e with
   | none=>rw [hs]at h;cases h
   | some m=>
    rw [hs]at h;injection h with h;injection h with h1 h2;subst h1 h2;simp only [hs,hlt,bA]
  | _=>cases h
theorem aFK{t:TypeId}{len size:Nat}(ha:aKu P t=some (len,size)){x ix:V}{w iw:Value}(r:fI c S C x w)(ri:fI c S C ix iw){Kv:V->Prop}{K:Value->Bool}(k:∀v w,fI c S C v w->Kv v->K w=true)(hv:aEa len size x ix Kv):sK P t w iw K=true:=by
 unfold aEa at hv;split at hv
 ·rename_i j i
  cases ri;split at hv
  ·obtain⟨hi,hv⟩:=hv
   cases r with
   | ptr e=>rw [Vd ha hi];exact k _ _ (.ptr e) hv
  ·cases hv
 ·cases hv
theorem aIf(s:VS P B Sbz c h S){size:Nat}{x ix:V}{w iw:Value}(r:fI c S C x w)(ri:fI c S C ix iw){Kv:V->Prop}{K:Value->Bool}(k:∀v w,fI c S C v w->Kv v->K w=true)(hv:jM size x ix Kv):aJ6 size w iw K=true:=by
 unfold jM at hv;split at hv
 ·rename_i j i
  cases ri;split at hv
  ·obtain⟨hi,hv⟩:=hv
   cases r with
   | list ht hd=>
    cases hd with
    | nil=>omega
    | emp=>omega
    | @row b0 o0 _ cc sp us e0 ck0 _ CW hb hC ho hl hn hr=>
     have hlt:Nat.blt i _=true:=jT hi;have:=k _ _ (.rK ht (.row CW hb hC ho hl hn hr)) hv
     match sp,CW with
     | none,_=>show(match Nat.blt i _ with | true=>_ | false=>false)=true;rw [hlt,bA];exact this
     | some 0,_=>show(match Nat.blt i _ with | true=>_ | false=>false)=true;rw [hlt,bA];exact this
  ·obtain⟨hi,hv⟩:=hv
   cases r with
   | own e=>
    have hlt:Nat.blt i _=true:=jT hi;show(match Nat.blt i _ with | true=>_ | false=>false)=true;rw [hlt,bA];exact k _ _ (.ptr e) hv
  ·obtain⟨hi,hv⟩:=hv
   cases r with
   | acc e=>
    obtain⟨b,rfl⟩:=s.Gs _ _ _ e;have hlt:Nat.blt i _=true:=jT hi;show(match Nat.blt i _ with | true=>_ | false=>false)=true;rw [hlt,bA,gB];exact k _ _ (.qX e) hv
  ·obtain⟨hi,hv⟩:=hv
   cases r with
   | oR e=>
    have hlt:Nat.blt i _=true:=jT hi;show(match Nat.blt i _ with | true=>_ | false=>false)=true;rw [hlt,bA];exact k _ _ (.qX e) hv
  ·cases hv
 ·cases hv
theorem aCQ{x ix:V}{w iw:Value}(r:fI c S C x w)(ri:fI c S C ix iw){Kv:V->Prop}{K:Value->Bool}(k:∀v w,fI c S C v w->Kv v->K w=true)(hv:aCF x ix Kv):Tw w iw K=true:=by
 unfold aCF at hv;split at hv
 ·cases ri
  split at hv
  ·rename_i l
   cases r;obtain⟨b,e,hv⟩:=LP hv;show SZ l _ (λb:UInt8=>cG b.toNat λn=>K (.int .u8 (.ofNat n)))=true;rw [Uc e,bA];exact k _ _ .int hv
  ·cases hv
 ·cases hv
theorem aIg{i:Nat}{x:V}{w:Value}(r:fI c S C x w){Kv:V->Prop}{K:Value->Bool}(k:∀v w,fI c S C v w->Kv v->K w=true)(hv:nF i x Kv):aHd i w K=true:=by
 unfold nF at hv;split at hv
 ·cases r with
  | tuple la ha=>
   obtain⟨v,e,hv⟩:=LP hv;obtain⟨u,eu,ru⟩:=kW.get ⟨la,ha⟩ e;rw [aMB,Uc eu];exact k v u ru hv
 ·cases hv
theorem aIh{kd:IntKind}{x:V}{w:Value}(r:fI c S C x w){Kv:V->Prop}{K:Value->Bool}(k:∀v w,fI c S C v w->Kv v->K w=true)(hv:Lo kd x Kv):aHc kd w K=true:=by
 unfold Lo at hv;split at hv
 ·cases r;rw [aMC];exact k _ _ .int hv
 ·cases hv
theorem aFL(s:VS P B Sbz c h S){x:V}{w:Value}(r:fI c S C x w){Kv:V->Prop}{K:Value->Bool}(k:∀v w,fI c S C v w->Kv v->K w=true)(hv:dC x Kv):aDR w K=true:=by
 unfold dC at hv;split at hv
 ·cases r with
  | list ht hd=>cases hd<;>exact k _ _ .int hv
 ·cases r;exact k _ _ .int hv
 ·cases r with
  | acc e=>obtain⟨b,rfl⟩:=s.Gs _ _ _ e;exact k _ _ .int hv
 ·cases r;exact k _ _ .int hv
 ·cases r;exact k _ _ .int hv
 ·cases r;exact k _ _ .int hv
 ·cases hv
theorem aFM{x:V}{w:Value}(r:fI c S C x w){Kv:V->Prop}{K:Value->Bool}(k:∀v w,fI c S C v w->Kv v->K w=true)(hv:JA x Kv):Zv w K=true:=by
 unfold JA at hv;split at hv
 ·cases r;rw [aKb];exact k _ _ .int hv
 ·cases hv
theorem Src.aCR{i o n cc size:Nat}{sp:Option Nat}(CW:Ji sp=true){vs:List Value}{e:TypeId}{ck:CK}(ho:S.obj i=some (.cells vs e ck))(hn:o+n*size<=vs.length)(h1:∀v∈(vs.drop o).take (n*size),gH v=true):Src S size (.slice (some ⟨i,o,sp⟩) n cc) n ((vs.drop o).take (n*size)):=by
 refine⟨λk=>rfl,λk hz=>?_,h1⟩;obtain⟨m,rfl⟩:=pV hz
 match sp,CW with
 | none,_=>show EQ S i o ((m+1)*size) k=_;rw [FP ho hn]
 | some 0,_=>show EQ S i o ((m+1)*size) k=_;rw [FP ho hn]
theorem aAJ(s:VS P B Sbz c h S){size:Nat}(hs0:0<size){x:V}{w:Value}(r:fI c S (cY B c h) x w){kv:Nat->List V->Prop}(hv:TF size x h kv):∃n vs ws,kv n vs/\kW c S (cY B c h) vs ws/\vs.length=n*size/\(∀k,KX w k=k n)/\(vs.all pN=true->Src S size w n ws):=by
 unfold TF at hv;split at hv
 ·cases r
  exact⟨0,[],[],hv,.nil,by simp,λk=>rfl,λ_=>⟨λk=>rfl,λk hz=>absurd rfl hz,λv hv=>by cases hv⟩⟩
 ·rename_i O cs n
  obtain⟨hl,hv⟩:=hv;cases r with
  | list ht hd=>
   have hlen:∀k,KX w k=k n:=λk=>by cases hd<;>rfl
   rcases MH n with hz | hz
   ·subst hz
    refine⟨0,_,[],hv,?_,by simp [WF],hlen,λ_=>⟨hlen,λk hz=>absurd rfl hz,λv hv=>by cases hv⟩⟩;rw [KC,List.take_zero];exact .nil
   ·cases hd with
    | nil=>omega
    | emp=>omega
    | @row b o _ cc sp vs e ck _ CW hb hC ho Hi hn hr=>
     have VI:0<n*size:=Nat.mul_pos hz hs0;obtain⟨us,e',ck',g1,g2,g3⟩:=Dd ht (.row CW hb hC ho Hi hn hr) (k:=0) (m:=n*size) (by omega) VI;rw [ho]at g1;injection g1 with g1;injection g1 with g1;subst g1;rw [DX,MJ]at g3;refine⟨n,_,_,hv,g3,by rw [WF,jL];omega,hlen,λh1=>Src.aCR CW ho (by omega) λv hv=>?_⟩;exact dJ.1 (s.Vc g3 h1) v hv
 ·rename_i i o n cc
  cases r with
  | own hZ=>
   split at hv
   ·rename_i vs t e
    obtain⟨hl,hv⟩:=hv;obtain⟨b,ws,a1,a2,a3,a4,a5⟩:=s.row i vs t e;rw [hZ]at a1;injection a1 with a1;subst a1;have l:=a5.len;have hr:=(a5.drop o).take (n*size);refine⟨n,_,_,hv,hr,by rw [jL,qT];omega,λk=>rfl,λh1=>Src.row a4 (by omega) λv hv=>dJ.1 (s.Vc hr h1) v hv⟩
   ·cases hv
 ·rename_i i n
  cases r with
  | acc hGz=>
   split at hv
   ·rename_i vs t m e
    obtain⟨rfl,hl,hv⟩:=hv;obtain⟨b,ws,olds,sz,a1,a2,a3,a4,a5,a6⟩:=s.iX i vs t m e;rw [hGz]at a1;injection a1 with a1;subst a1;have l:=a5.len;refine⟨m,vs,ws,hv,a5,hl,λk=>rfl,λh1=>?_⟩;have:=Src.aCR (n:=m) (cc:=m) (size:=size) (o:=0) (sp:=some 0) rfl a4 (by omega) (λv hv=>dJ.1 (s.Vc a5 h1) v (by rw [DX]at hv;exact List.mem_of_mem_take hv))
    rwa [DX,oS (by omega)]at this
   ·cases hv
 ·rename_i i n o q cc
  cases r with
  | oR hGz=>
   split at hv
   ·rename_i vs t m e
    obtain⟨rfl,hl,hv⟩:=hv;obtain⟨b,ws,olds,sz,a1,a2,a3,a4,a5,a6⟩:=s.iX i vs t m e;rw [hGz]at a1;injection a1 with a1;injection a1 with a1;injection a1 with a1;injection a1 with a1;subst a1;have l:=a5.len;have hr:=(a5.drop o).take (q*size);refine⟨q,_,_,hv,hr,by rw [jL,qT];omega,λk=>rfl,λh1=>Src.aCR (n:=q) (cc:=cc) (size:=size) (o:=o) (sp:=some 0) rfl a4 (by omega) λv hv=>dJ.1 (s.Vc hr h1) v hv⟩
   ·cases hv
 ·cases r
  exact⟨0,[],[],hv,.nil,by simp,λk=>rfl,λ_=>⟨λk=>rfl,λk hz=>absurd rfl hz,λv hv=>by cases hv⟩⟩
 ·rename_i l
  cases r;obtain⟨rfl,hv⟩:=hv;have hx:=Src.text S l;refine⟨l.length,_,Ue l,hv,⟨by simp [Ue],λk v w e1 e2=>?_⟩,by simp,hx.len,λ_=>hx⟩;unfold Ue at e2;rw [jA]at e1 e2;cases e:l[k]? with
  | none=>rw [e]at e1;cases e1
  | some b=>rw [e]at e1 e2;injection e1 with e1;injection e2 with e2;subst e1 e2;exact .int
 ·cases hv
theorem RE(s:VS P B Sbz c h S){el size bytes:Nat}(hs0:0<size)(hsz:bP P el=some size){y x:V}{w u:Value}(r:fI c S (cY B c h) y w)(q:fI c S (cY B c h) x u){Kv:KV}{K:VK}(k:KR P B Sbz c h S Kv K)(hv:qG el size bytes y x h Kv):Zw P el size bytes w u S K=true:=by
 obtain⟨m,vs,ws,hv,hr,hl,hlen,Ze⟩:=aAJ s hs0 q hv;cases m with
 | zero=>
  have hap:∀b n cc,w= .slice b n cc->n<=cc->Kv y h->Zw P el size bytes w u S K=true:=λb n cc e hn hk=>by
   have hw:=k.here s r hk;subst e;show KX u _=true;rw [hlen];show(match Nat.ble n cc with | true=>K (.slice b n cc) S | false=>false)=true;rw [show Nat.ble n cc=true from jT hn];exact hw
  simp only at hv;split at hv
  ·cases r;exact hap _ _ _ rfl (bI _) hv
  ·cases r with
   | acc e=>obtain⟨b,rfl⟩:=s.Gs _ _ _ e;exact hap _ _ _ rfl (bI _) hv
  ·cases r;exact hap _ _ _ rfl hv.1 hv.2
  ·cases r with
   | list ht hd=>
    cases hd with
    | nil=>exact hap _ _ _ rfl (bI _) hv
    | emp=>exact hap _ _ _ rfl (bI _) hv
    | row _ _ _ _ _ hn _=>exact hap _ _ _ rfl hn hv
  ·cases r with
   | oR e=>exact hap _ _ _ rfl hv.1 hv.2
  ·cases hv
 | succ m=>
  obtain⟨h1,hv⟩:=hv;have hx:=Ze h1;split at hv
  ·obtain⟨hb,hv⟩:=hv
   cases r;rw [aHm hx (by omega) hb];obtain⟨i,e1,e2,e3⟩:=s.fresh;obtain⟨a1,a2,a3,a4⟩:=s.aCN e1 e2 e3 hsz hl hr;exact k _ _ _ _ _ a2 a3 a1 (.acc a4) (hv i e1)
  ·rename_i i n hv0
   cases ei:h i with
   | none=>simp only [ei]at hv
   | some ob=>
   cases ob with
   | row us t=>simp only [ei]at hv
   | map es=>simp only [ei]at hv
   | ZG=>simp only [ei]at hv
   | iter=>simp only [ei]at hv
   | loop=>simp only [ei]at hv
   | iX us t n'=>
    simp only [ei]at hv;obtain⟨hn',ht',hul,hb,hv⟩:=hv;subst hn' ht';have e:=ei;obtain⟨b,ws2,olds,sz,a1,a2,a3,a4,a5,a6,a7,a8⟩:=s.iX i us _ _ e;cases r with
    | acc hGz=>
     rw [a1]at hGz;injection hGz with hGz;subst hGz;have l2:=a5.len;rw [aAa hx (by omega) hb a4 (by omega) hsz];obtain⟨b1,b2,b3,b4⟩:=s.aEj e a1 a4 hsz hl (by omega) hul a5 hr;exact k _ _ _ _ _ b2 b3 b1 (.acc b4) hv
  ·rename_i i o n cc hv0
   cases ei:h i with
   | none=>simp only [ei]at hv
   | some ob=>
   cases ob with
   | iX us t n'=>simp only [ei]at hv
   | map es=>simp only [ei]at hv
   | ZG=>simp only [ei]at hv
   | iter=>simp only [ei]at hv
   | loop=>simp only [ei]at hv
   | row us t=>
    simp only [ei]at hv;obtain⟨hb,aRu,PU,aGM⟩:=hv;obtain⟨b,ws2,a1,a2,a3,a4,a5⟩:=s.row i us t ei;have l2:=a5.len;cases r with
    | own hZ=>
     rw [a1]at hZ;injection hZ with hZ;subst hZ;show KX u _=true;rw [hx.len];show GJ S size (m+1) u _=true;rw [hx.first _ (by omega)];simp only [bA];rw [show EP (n+(m+1)) bytes=true from PF hb];by_cases hc:n+(m+1)<=cc
     ·rw [show Nat.ble (n+(m+1)) cc=true from jT hc]
      obtain⟨OO,hv⟩:=PU hc;have GM:rD gH ws=true:=by rw [jZ];exact s.Vc hr h1
      show PK size ws (some ⟨b,o,none⟩) n cc (n+(m+1)) S K=true;unfold PK;simp only [show Ji none=true from rfl,GM];show cG (o+n*size) (λat_=>pW S b at_ ws λS=>K (.slice (some ⟨b,o,none⟩) (n+(m+1)) cc) S)=true;rw [bA];show pW S b (o+n*size) ws _=true;unfold pW;rw [AB a4];show rF (o+n*size) ws ws2 (λvs=>rE S b (.cells vs t .exact) λS=>K (.slice (some ⟨b,o,none⟩) (n+(m+1)) cc) S)=true;have l3:=hr.len;rw [xW,if_pos (by omega),gR];obtain⟨s1,s2⟩:=s.setRow ei a1 (a5.aE hr (o+n*size));exact k c _ _ _ _ (.refl c) s2 s1 (.own a1) hv
     ·have:Nat.ble (n+(m+1)) cc=false:=by
       cases hq:Nat.ble (n+(m+1)) cc with
       | false=>rfl
       | true=>exact absurd (aW hq) hc
      rw [this];have hv:=aGM (by omega);show XK P el size ws (some ⟨b,o,none⟩) n (n+(m+1)) S K=true;show EQ S b o (n*size) (λold=>NW el old ws (n+(m+1)) none S K)=true;rw [FP a4 (by omega)];unfold NW;rw [lE];simp only [gZ];obtain⟨j,e1,e2,e3⟩:=s.fresh;have hr2:=((a5.drop o).take (n*size)).app hr
      have hn2:((us.drop o).take (n*size)++vs).length=(n+(m+1))*size:=by
       rw [bH,jL,qT,hl,mG n,Nat.min_eq_left (by omega)]
      obtain⟨b1,b2,b3,b4⟩:=s.aCN e1 e2 e3 hsz hn2 hr2;exact k _ _ _ _ _ b2 b3 b1 (.acc b4) (hv j e1)
  ·rename_i i q o n cc hv0
   cases ei:h i with
   | none=>simp only [ei]at hv
   | some ob=>
   cases ob with
   | row us t=>simp only [ei]at hv
   | map es=>simp only [ei]at hv
   | ZG=>simp only [ei]at hv
   | iter=>simp only [ei]at hv
   | loop=>simp only [ei]at hv
   | iX us t q'=>
    simp only [ei]at hv;obtain⟨hq',ht',hb,PU,aGM⟩:=hv;subst hq' ht';cases r with
    | @oR _ _ _ _ _ b hGz=>
     by_cases hc:n+(m+1)<=cc
     ·obtain⟨OO,hv⟩:=PU hc
      show KX u _=true;rw [hx.len];show GJ S size (m+1) u _=true;rw [hx.first _ (by omega)];simp only [bA];rw [show EP (n+(m+1)) bytes=true from PF hb,show Nat.ble (n+(m+1)) cc=true from jT hc];have GM:rD gH ws=true:=by rw [jZ];exact s.Vc hr h1
      show PK size ws (some ⟨b,o,some 0⟩) n cc (n+(m+1)) S K=true;unfold PK;simp only [show Ji (some 0)=true from rfl,GM];show cG (o+n*size) (λat_=>pW S b at_ ws λS=>K (.slice (some ⟨b,o,some 0⟩) (n+(m+1)) cc) S)=true;rw [bA];exact CC s ei hGz hr OO (λh' S' f s' FG=>k c h' S' _ _ (.refl c) f s' (.oR hGz) FG) hv
     ·obtain⟨ho,hn,hcq,hul,hv⟩:=aGM (by omega)
      subst ho hn hcq;have e:=ei;obtain⟨b2,ws2,olds,sz,a1,a2,a3,a4,a5,a6,a7,a8⟩:=s.iX i us _ _ e;rw [a1]at hGz;injection hGz with hGz;injection hGz with hGz;injection hGz with hGz;injection hGz with hGz;subst hGz;have l2:=a5.len;rw [aAa hx (by omega) hb a4 (by omega) hsz];obtain⟨b1,b2',b3,b4⟩:=s.aEj e a1 a4 hsz hl (by omega) hul a5 hr;exact k _ _ _ _ _ b2' b3 b1 (.acc b4) hv
  ·cases hv
theorem aIi{x:V}{w:Value}(r:fI c S C x w){Kv:V->Prop}{K:Value->Bool}(k:∀v w,fI c S C v w->Kv v->K w=true)(hv:jI P x Kv):aJ8 P w K=true:=by
 unfold jI at hv;split at hv
 ·cases r with | ptr e=>exact k _ _ (.ptr e) hv
 ·cases r with | rK ht hd=>exact k _ _ (.rK ht hd) hv
 ·cases r with | qX e=>exact k _ _ (.qX e) hv
 ·cases r with | func a b e f=>exact k _ _ (.func a b e f) hv
 ·cases r with | iface e=>exact k _ _ (.iface e) hv
 ·split at hv
  ·rename_i s v t w'
   split at hv
   ·rename_i g hg
    cases r with
    | GS r=>
     cases r with
     | iface r=>
      show(match GK P t s with | some _=>_ | none=>false)=true;rw [hg];exact k _ _ (.GS (.iface r)) hv
   ·cases hv
  ·cases hv
 ·cases hv
theorem aQU(x y:Int):(x==y)=decide (x=y):=by
 by_cases e:x=y
 ·subst e;simp
 ·rw [aR e];simpa using e
inductive NR:NK->Bool->Value->Prop
 | p0 {a:Addr}:NR .ptr false (.pointer (some a))
 | p1:NR .ptr true (.pointer none)
 | s0 {a:Addr} {n m:Nat}:NR .slice false (.slice (some a) n m)
 | s1 {n m:Nat}:NR .slice true (.slice none n m)
 | m0 {b:Nat}:NR .map false (.map (some b))
 | m1:NR .map true (.map none)
 | f0 {f:Fn} {a b:Array Value}:NR .func false (.func f a b)
 | f1:NR .func true .nilFunc
 | i0 {t:TypeId} {v:Value}:NR .iface false (.iface t v)
 | i1:NR .iface true .nilIface
theorem Ma(hGz:∀i n w,c.G i n=some w->∃b,w= .slice (some ⟨b,0,some 0⟩) n n){a:V}{u:Value}(r:fI c S C a u){kk:NK}{x:Bool}(hk:NA a=some (kk,x)):NR kk x u:=by
 cases r with
 | @list O cs n w ht hd=>
  cases cs with
  | nil=>cases hk
  | cons d cs=>
   injection hk with hk;injection hk with h1 h2;subst h1 h2;cases hd with
   | row=>exact .s0
 | acc e=>obtain⟨b,rfl⟩:=hGz _ _ _ e;injection hk with hk;injection hk with h1 h2;subst h1 h2;exact .s0
 | _=>first
  | (cases hk;done)
  | (injection hk with hk;injection hk with h1 h2;subst h1 h2;constructor)
theorem aLN{t:TypeId}{kk:NK}{x y:Bool}{u w:Value}(hx:NR kk x u)(hy:NR kk y w)(ho:x=true\/y=true)(hi:x=true->y=true->kk≠ .iface)(ht:RA P t=some kk)(k:Bool->Bool):oX P t u w k=k (x&&y):=by
 unfold RA at ht;cases hx<;>cases hy<;>first | (rcases ho with ho | ho<;>cases ho;done) | (exact absurd rfl (hi rfl rfl)) | (unfold oX;split at ht<;>first | (rename_i hu;simp only [hu];rfl) | (cases ht;done))
theorem aAK{O:Tag}{n:Nat}{u:Value}(r:fI c S C (.list O [] n) u):∃x,NR .slice x u:=by
 cases r with
 | list ht hd=>
  cases hd with
  | nil=>exact⟨true,.s1⟩
  | emp=>exact⟨false,.s0⟩
  | row=>exact⟨false,.s0⟩
theorem aCS{op:BinOp}{t:TypeId}{a b:V}{u w:Value}(r:fI c S C a u)(q:fI c S C b w){Kv:V->Prop}{K:Value->Bool}(k:∀v w,fI c S C v w->Kv v->K w=true)(hv:aCG P op t a b Kv):VB P op t u w K=true:=by
 unfold aCG at hv;split at hv
 ·split at hv
  ·obtain⟨ht,hv⟩:=hv
   obtain⟨x,hx⟩:=aAK r;cases q;have hy:NR .slice true (.slice none 0 0):= .s1;have e:=aLN hx hy (.inr rfl) (λ_ _ h=>by cases h) ht;cases op<;>first | (cases hv;done) | skip
   ·have:VB P .eql t u (.slice none 0 0) K=oX P t u (.slice none 0 0) λe=>nX e K:=by cases hx<;>rfl
    rw [this,e,qE];cases x with
    | true=>exact k _ _ .bool hv.1
    | false=>exact k _ _ .bool hv.2
   ·have:VB P .neq t u (.slice none 0 0) K=oX P t u (.slice none 0 0) λe=>nX (!e) K:=by cases hx<;>rfl
    rw [this,e,qE];cases x with
    | true=>exact k _ _ .bool hv.2
    | false=>exact k _ _ .bool hv.1
  ·cases hv
 ·cases hv
theorem aCT{op:BinOp}{t:TypeId}{a b:V}{u w:Value}(hGz:∀i n w,c.G i n=some w->∃b,w= .slice (some ⟨b,0,some 0⟩) n n)(r:fI c S C a u)(q:fI c S C b w){Kv:V->Prop}{K:Value->Bool}(k:∀v w,fI c S C v w->Kv v->K w=true)(hv:VZ P op t a b Kv):VB P op t u w K=true:=by
 unfold VZ at hv;split at hv
 ·rename_i ka x ha
  split at hv
  ·rename_i kb y hb
   obtain⟨rfl,ht,hxy,hi,hv⟩:=hv;have hx:=Ma hGz r ha;have hy:=Ma hGz q hb;have e:=aLN hx hy hxy hi ht;cases op<;>first | (cases hv;done) | skip
   ·have:VB P .eql t u w K=oX P t u w λe=>nX e K:=by cases hx<;>cases hy<;>rfl
    rw [this,e,qE];exact k _ _ .bool hv
   ·have:VB P .neq t u w K=oX P t u w λe=>nX (!e) K:=by cases hx<;>cases hy<;>rfl
    rw [this,e,qE];exact k _ _ .bool hv
  ·cases hv
 ·exact aCS r q k hv
theorem aIj{op:BinOp}{t:TypeId}{a b:V}{u w:Value}(hGz:∀i n w,c.G i n=some w->∃b,w= .slice (some ⟨b,0,some 0⟩) n n)(r:fI c S C a u)(q:fI c S C b w){Kv:V->Prop}{K:Value->Bool}(k:∀v w,fI c S C v w->Kv v->K w=true)(hv:aD P op t a b Kv):aHb P op t u w K=true:=by
 rw [MY];unfold aD at hv;split at hv
 ·rename_i j x
  split at hv
  ·rename_i k' y
   cases r;cases q;cases hs:xL op with
   | true=>
    rw [hs]at hv;obtain⟨hy,hv⟩:=hv;have hlt:Ns y 0=false:=by rw [GR];exact aR (by omega)
    cases op<;>first | cases hs | skip
    ·show UY .shl j x y K=true
     unfold UY;rw [hlt];show KD j (x*2 ^ (min y.toNat j.bits)) K=true;unfold KD;rw [nG];exact k _ _ .int hv
    ·show UY .shr j x y K=true
     unfold UY;rw [hlt];show zK (x.fdiv (2 ^ (min y.toNat j.bits))) (λn=>K (.int j n))=true;rw [nG];exact k _ _ .int hv
   | false=>
    rw [hs]at hv;obtain⟨rfl,hv⟩:=hv
    have hg:VB P op t (.int j x) (.int j y) K=MM op j x y K:=by
     rw [<-MY];exact aMD _ _ _ _ _ _ (by rintro rfl;cases hs) (by rintro rfl;cases hs)
    rw [hg]
    have hint:∀n,Kv (.int j (lC j n))->KD j n K=true:=λn hv=>by
     unfold KD;rw [nG];exact k _ _ .int hv
    have h0:∀y:Int,y≠0->Hg y 0=false:=λy hy=>by rw [uV];simpa using hy
    cases op<;>first
     | exact hint _ hv
     | (obtain⟨hy,hv⟩:=hv;show(match Hg y 0 with | true=>false | false=>_)=true;rw [h0 y hy];first | exact hint _ hv | (show zK _ _=true;rw [nG];exact k _ _ .int hv))
     | (show zK (j.wrap _) (λn=>K (.int j n))=true;rw [nG];exact k _ _ .int hv)
     | (show nX _ K=true;rw [qE];simp only [uV,GR,aQU];first | exact k _ _ .bool hv | (have e1:(!decide (y<x))=decide (x<=y):=(by by_cases h:y<x;rw [aU h,aR (show ¬x<=y by omega)];rfl;rw [aR h,aU (show x<=y by omega)];rfl);rw [e1];exact k _ _ .bool hv) | (have e1:(!decide (x<y))=decide (y<=x):=(by by_cases h:x<y;rw [aU h,aR (show ¬y<=x by omega)];rfl;rw [aR h,aU (show y<=x by omega)];rfl);rw [e1];exact k _ _ .bool hv))
     | cases hv
     | cases hs
  ·cases hv
 ·rename_i x
  split at hv
  ·rename_i y
   cases r;cases q
   have e8:Gj x y=decide (x=y):=by
    rw [FJ];by_cases e:x=y
    ·subst e;simp
    ·rw [aR e];simpa using e
   cases op<;>first
    | (show nX _ K=true;rw [qE];show K (.bool _)=true;first | (rw [e8];exact k _ _ .bool hv) | (rw [aDI];exact k _ _ .bool hv))
    | (exact absurd hv id)
    | (obtain⟨hl,hv⟩:=hv
       show(CU x λn=>CU y λm=>match Nat.blt (n+m) 9223372036854775808 with | true=>zN x y λl=>K (.string ⟨⟨l⟩⟩) | false=>false)=true;rw [kM,kM,show Nat.blt (x.length+y.length) 9223372036854775808=true from jT hl];exact(lE x y _).trans (k _ _ .str hv))
  ·cases hv
 ·rename_i x
  split at hv
  ·rename_i y
   cases r;cases q;obtain⟨ht,hv⟩:=hv;unfold Ic at ht;split at ht
   ·rename_i hu
    have hb:(x==y)=decide (x=y):=by cases x<;>cases y<;>rfl
    cases op<;>first | cases hv | skip
    all_goals
     show oX P t (.bool x) (.bool y) _=true;unfold oX;simp only [hu,oQ,qE,hb];exact k _ _ .bool hv
   ·cases ht
  ·cases hv
 ·exact aCT hGz r q k hv
theorem aKD{op:UnOp}{a:V}{u:Value}(r:fI c S C a u){Kv:V->Prop}{K:Value->Bool}(k:∀v w,fI c S C v w->Kv v->K w=true)(hv:JC op a Kv):unK op u K=true:=by
 unfold JC at hv;split at hv
 ·split at hv
  ·cases r;rw [aKc];exact k _ _ .bool hv
  ·cases hv
 ·split at hv
  ·cases r
   show KD _ _ K=true;unfold KD;rw [nG];exact k _ _ .int hv
  ·cases hv
 ·split at hv
  ·cases r
   unfold unK;simp only;rw [nG];exact k _ _ .int hv
  ·cases hv
 ·cases hv
theorem aAL{P:Program}{big:Bool}{ts:List TypeId}{a b:V}{w u:Value}(r:fI c S C a w)(q:fI c S C b u){Kv:V->Prop}{K:VK}(k:∀v w,fI c S C v w->Kv v->K w S=true)(hv:aFz big a b Kv):nY P (match big with | true=> .max | false=> .min) ts [w,u] S K=true:=by
 cases r<;>try (cases hv;done)
 cases q<;>try (cases hv;done)
 rename_i j x j' y;have hw:=k _ _ .int hv;cases big with
 | true=>
  show TT true [.int j' y] j x (λv=>K v S)=true;show dL (Ns x y) (K (.int j y) S) (K (.int j x) S)=true;rw [GR];simp only [Int.max_def]at hw;by_cases h:x<y
  ·rw [if_pos (by omega)]at hw;simp only [aU h];exact hw
  ·by_cases h2:x<=y
   ·rw [if_pos h2]at hw
    have:x=y:=by omega
    subst this;simp only [aR h];exact hw
   ·rw [if_neg h2]at hw
    simp only [aR h];exact hw
 | false=>
  show TT false [.int j' y] j x (λv=>K v S)=true;show dL (Ns y x) (K (.int j y) S) (K (.int j x) S)=true;rw [GR];simp only [Int.min_def]at hw;by_cases h:y<x
  ·rw [if_neg (by omega)]at hw;simp only [aU h];exact hw
  ·rw [if_pos (by omega)]at hw;simp only [aR h];exact hw
inductive OR'(c:Cx)(S:St)(C:Nat->Prop):Option V->Option Value->Prop
 | none:OR' c S C none none
 | some {v:V} {w:Value} (h:fI c S C v w):OR' c S C (some v) (some w)
theorem Mb{d:Nat}{o:Option V}{o':Option Value}(r:OR' c S C o o'){k:Nat->Prop}{K:Nat->Bool}(hk:∀n,k n->K n=true)(hv:Lq d o k):aEL d o' K=true:=by
 cases r with
 | none=>exact hk _ hv
 | some r=>
  cases r<;>try (cases hv;done)
  rename_i j z;cases z with
  | ofNat n=>exact hk n hv
  | negSucc n=>cases hv
theorem yS{len cap:Nat}{lo hi mx:Option V}{Hr TB XE:Option Value}(r1:OR' c S C lo Hr)(r2:OR' c S C hi TB)(r3:OR' c S C mx XE){k:Nat->Nat->Nat->Prop}{K:Nat->Nat->Nat->Bool}(hk:∀l h m,l<=h->h<=m->m<=cap->k l h m->K l h m=true)(hv:LM len cap lo hi mx k):MN len cap Hr TB XE K=true:=by
 refine Mb r3 (λm hv=>Mb r2 (λh hv=>Mb r1 (λl hv=>?_) hv) hv) hv;obtain⟨h1,h2,h3,hv⟩:=hv;simp only [jT h1,jT h2,jT h3];exact hk l h m h1 h2 h3 hv
theorem De{d:Nat}{o:Option V}{k k':Nat->Prop}(hk:∀n,k n->k' n)(h:Lq d o k):Lq d o k':=by
 unfold Lq at*;split at h
 ·exact hk _ h
 ·exact hk _ h
 ·cases h
theorem aIk{n c:Nat}(hc:n<=c){lo hi:Option V}{v:V}{k:Nat->Nat->Nat->Prop}(h:LM n n lo hi (some v) k):LM n c lo hi (some v) λl h m=>m<=n/\k l h m:=by
 unfold LM at*
 have h1:Lq c (some v) λm=>Lq n hi λh=>Lq 0 lo λl=>l<=h/\h<=m/\m<=n/\k l h m:=by
  unfold Lq at h ⊢;split at h
  ·rename_i e;cases e
  ·exact h
  ·cases h
 exact De (λm=>De λh=>De λl ⟨a,b,d,e⟩=>⟨a,b,by omega,d,e⟩) h1
theorem aIl(s:VS P B Sbz c h S){t el:TypeId}{size:Nat}(he:isSlice P t=some el)(hs:bP P el=some size){x:V}{w:Value}(r:fI c S C x w){lo hi mx:Option V}{Hr TB XE:Option Value}(r1:OR' c S C lo Hr)(r2:OR' c S C hi TB)(r3:OR' c S C mx XE){k:V->Prop}{K:Value->Bool}(hk:∀v w,fI c S C v w->k v->K w=true)(hv:Cy el size x lo hi mx h k):sJ P t w Hr TB XE S K=true:=by
 have iX:∀{i n b o q cc:Nat},c.G i n=some (.slice (some ⟨b,0,some 0⟩) n n)->(match h i with
  | some (.iX _ t n')=>n'=n/\t=el/\LM q cc lo hi none λl h m=>(l<m->k (.oR i n (o+l*size) (h-l) (m-l)))/\(m=l->k (.emp i n))
  | _=>False)->sJ P t (.slice (some ⟨b,o,some 0⟩) q cc) Hr TB none S K=true:=by
  intro i n b o q cc e hq;split at hq
  ·rename_i vs t' n' ei
   obtain⟨rfl,rfl,hq⟩:=hq;obtain⟨b',us,olds,sz,a1,a2,a3,a4,a5,a6,a7⟩:=s.iX i vs t' n' ei;rw [e]at a1;injection a1 with a1;injection a1 with a1;injection a1 with a1;injection a1 with a1;subst a1;unfold sJ;simp only [he,hs];refine yS r1 r2 .none (λl h m h1 h2 h3 hz=>?_) hq;obtain⟨hz,hz0⟩:=hz;simp only [bA];cases hw:Nat.beq m l with
   | true=>exact hk _ _ (.aH8 e) (hz0 (cT hw))
   | false=>
    have h4:=OX hw;simp only;rw [AB a4];simp only [hs];rw [show Nat.beq size size=true from MK size];exact hk _ _ (.oR e) (hz (by omega))
  ·cases hq
 cases r<;>try (cases hv;done)
 ·rename_i O cs n ht hd
  cases r3 with
  | none=>cases hv
  | some r3'=>
   have hv:LM n n lo hi (some _) λl h m=>l<m/\h*size<=cs.length/\k (.list (.cut O (l*size) (h-l) (m-l)) ((cs.drop (l*size)).take ((h-l)*size)) (h-l)):=hv;cases hd with
   | nil=>
    unfold sJ;simp only [he,hs];exact yS r1 r2 (.some r3') (λl h m h1 h2 h3 hq=>absurd hq.1 (by omega)) hv
   | emp=>
    unfold sJ;simp only [he,hs];exact yS r1 r2 (.some r3') (λl h m h1 h2 h3 hq=>absurd hq.1 (by omega)) hv
   | @row b o _ cc sp vs e ck _ CW hb hC ho hl hn hr=>
    unfold sJ;simp only [he,hs];refine yS r1 r2 (.some r3') (λl h m h1 h2 h3 hq=>?_) (aIk hn hv);obtain⟨hmn,hlm,xV,hq⟩:=hq;have hle:l*size<=cs.length:=tP (lB _ h1) xV;simp only [bA]
    have wC:Nat.beq m l=false:=by
     cases hw:Nat.beq m l with
     | false=>rfl
     | true=>have:=cT hw;omega
    rw [wC]
    have hw:K (.slice (some ⟨b,o+l*size,none⟩) (h-l) (m-l))=true:=by
     refine hk _ _ (.list (.cut ht) (.row rfl hb hC ho ?_ (by omega) λj d v x1 x2=>?_)) hq
     ·rw [jL,qT]
      omega
     ·rw [kR]at x1
      split at x1
      ·rw [kS]at x1
       exact hr (l*size+j) d v x1 (by rw [<-uQ];exact x2)
      ·cases x1
    match sp,CW with
    | none,_=>exact hw
    | some 0,_=>exact hw
 ·unfold sJ
  simp only [he,hs];refine yS r1 r2 r3 (λl h m h1 h2 h3 hv=>?_) hv;simp only [bA];have:h-l=0/\m-l=0:=by omega
  rw [this.1,this.2];exact hk _ _ .nil hv
 ·rename_i i n e
  obtain⟨b,rfl⟩:=s.Gs _ _ _ e;cases r3 with
  | none=>exact iX e hv
  | some _=>cases hv
 ·rename_i i n o q cc b e
  cases r3 with
  | none=>exact iX e hv
  | some _=>cases hv
 ·rename_i i o n m b e
  unfold sJ;simp only [he,hs];refine yS r1 r2 r3 (λl h m h1 h2 h3 hv=>?_) hv;simp only [bA];have hw:K (.slice (some ⟨b,if m=l then o else o+l*size,none⟩) (h-l) (m-l))=true:=hk _ _ (.own e) hv;cases hq:Nat.beq m l with
  | true=>rw [if_pos (cT hq)]at hw;exact hw
  | false=>rw [if_neg (OX hq)]at hw;exact hw
theorem aCU(s:VS P B Sbz c h S){t el:TypeId}{zero:List Value}{m:Nat}(he:isSlice P t=some el)(hs:bP P el=some (m+1))(hz:tX P el=some zero)(hl:Nat.beq zero.length (m+1)=true)(hf:rD bE zero=true){x:V}{w:Value}(r:fI c S (cY B c h) x w){Kv:Hp->Prop}{K:VK}(k:∀h' S',AZ (cY B c h) S S' (cY B c h')->VS P B Sbz c h' S'->Kv h'->K (.tuple #[]) S'=true)(hv:RB zero x h Kv):nY P .clear [t] [w] S K=true:=by
 have fin:∀{b o q cc:Nat} {sp:Option Nat},Ji sp=true->pW S b o (List.replicate (q+1) zero).flatten (λS=>K (.tuple #[]) S)=true->nY P .clear [t] [.slice (some ⟨b,o,sp⟩) (q+1) cc] S K=true:=by
  intro b o q cc sp CW hw
  show(match isSlice P t with
   | some elem=>match bP P elem,tX P elem with
    | some size,some zero=>match(some (⟨b,o,sp⟩:Addr)),q+1 with
     | none,_=>K (.tuple #[]) S
     | some _,0=>K (.tuple #[]) S
     | some ⟨i,o,sp⟩,n+1=>match Ji sp,Nat.beq zero.length size,rD bE zero,size with
      | true,true,true,_+1=>Xm zero (n+1) λcs=>pW S i o cs λS=>K (.tuple #[]) S
      | _,_,_,_=>false
    | _,_=>false
   | none=>false)=true
  simp only [he,hs,hz,CW,hl,hf];rw [CL];exact hw
 have aIm:∀{a:Addr} {cc:Nat},K (.tuple #[]) S=true->nY P .clear [t] [.slice (some a) 0 cc] S K=true:=by
  intro a cc hw
  show(match isSlice P t with
   | some elem=>match bP P elem,tX P elem with
    | some size,some zero=>K (.tuple #[]) S
    | _,_=>false
   | none=>false)=true
  simp only [he,hs,hz];exact hw
 have zs:∀{q:Nat} {z:List V},ED zero=some z->kW c S (cY B c h) (List.replicate (q+1) z).flatten (List.replicate (q+1) zero).flatten:=λhz=>(SN hz).flatten _
 have Ve:∀{p:List V->Prop},AD zero p->∃z,ED zero=some z/\p z:=by
  intro p hp;unfold AD at hp;split at hp
  ·rename_i z e;exact⟨z,e,hp⟩
  ·cases hp
 have here:=λ(hv:Kv h)=>k h S (.refl _ S) s hv;unfold RB at hv;split at hv
 ·cases r
  show(match isSlice P t with
   | some elem=>match bP P elem,tX P elem with
    | some size,some zero=>K (.tuple #[]) S
    | _,_=>false
   | none=>false)=true
  simp only [he,hs,hz];exact here hv
 ·cases r with
  | own e=>
   split at hv
   ·exact aIm (here hv)
   ·obtain⟨z,Hh,hq⟩:=Ve hv
    split at hq
    ·rename_i vs t' e1
     exact fin rfl (WG s e1 e (zs Hh) hq.1 k hq.2)
    ·cases hq
 ·cases r with
  | acc e=>
   obtain⟨b,rfl⟩:=s.Gs _ _ _ e;split at hv
   ·exact aIm (here hv)
   ·obtain⟨z,Hh,hq⟩:=Ve hv
    split at hq
    ·rename_i vs t' m' e1
     obtain⟨rfl,hq⟩:=hq;exact fin rfl (CC s e1 e (zs Hh) (by omega) k hq.2)
    ·cases hq
 ·cases r with
  | oR e=>
   split at hv
   ·exact aIm (here hv)
   ·obtain⟨z,Hh,hq⟩:=Ve hv
    split at hq
    ·rename_i vs t' m' e1
     obtain⟨rfl,hq⟩:=hq;exact fin rfl (CC s e1 e (zs Hh) hq.1 k hq.2)
    ·cases hq
 ·cases hv
theorem aFN(s:VS P B Sbz c h S){ts:List TypeId}{dT el:TypeId}{m:Nat}(he:isSlice P dT=some el)(hs:bP P el=some (m+1)){y x:V}{w u:Value}(r:fI c S (cY B c h) y w)(q:fI c S (cY B c h) x u){Kv:KV}{K:VK}(k:KR P B Sbz c h S Kv K)(hv:aHX (m+1) y x h Kv):Pf P (dT::ts) w u S K=true:=by
 unfold aHX at hv;obtain⟨n,vs,ws,hv,hr,hl,hlen,Ze⟩:=aAJ s (Nat.succ_pos m) q hv;cases y with
 | own i o d cc=>
  cases r with
  | @own _ _ _ _ b hZ=>
  obtain⟨hn,hv⟩:=hv;unfold Pf;simp only [he,hs];have aEO:Nat.min n d=n:=Nat.min_eq_left hn;rw [hlen,bA,aEO];cases n with
  | zero=>exact k.here s .int hv
  | succ n=>
   obtain⟨h1,hv⟩:=hv;have hS:=Ze h1;show GJ S (m+1) (n+1) u _=true;rw [hS.first _ (by omega)];have ho:rD gH ws=true:=by rw [jZ];exact dJ.2 hS.one
   simp only [show Ji none=true from rfl,ho];split at hv
   ·rename_i us t e
    refine WG s e hZ hr hv.1 (λh' S' f s' FG=>?_) hv.2;exact k c h' S' _ _ (.refl c) f s' .int FG
   ·cases hv
 | _=>cases hv
theorem aIn{t el:TypeId}{len size:Nat}(he:P.underlying t=some (.array len el))(hs:bP P el=some size){x:V}{w:Value}(r:fI c S C x w){lo hi mx:Option V}{Hr TB XE:Option Value}(r1:OR' c S C lo Hr)(r2:OR' c S C hi TB)(r3:OR' c S C mx XE){k:V->Prop}{K:Value->Bool}(hk:∀v w,fI c S C v w->k v->K w=true)(hv:aCJ len size x lo hi mx k):sJ P t w Hr TB XE S K=true:=by
 cases r<;>try (cases hv;done)
 rename_i i o b e;unfold sJ;simp only [he,hs];refine yS r1 r2 r3 (λl h m h1 h2 h3 hv=>?_) hv;simp only [bA];have hw:K (.slice (some ⟨b,if m=l then o else o+l*size,none⟩) (h-l) (m-l))=true:=hk _ _ (.own e) hv;cases hq:Nat.beq m l with
 | true=>rw [if_pos (cT hq)]at hw;exact hw
 | false=>rw [if_neg (OX hq)]at hw;exact hw
theorem aIo{t:TypeId}(he:P.underlying t=some .string){x:V}{w:Value}(r:fI c S C x w){lo hi:Option V}{Hr TB:Option Value}(r1:OR' c S C lo Hr)(r2:OR' c S C hi TB){k:V->Prop}{K:Value->Bool}(hk:∀v w,fI c S C v w->k v->K w=true)(hv:aOZ x lo hi k):sJ P t w Hr TB none S K=true:=by
 cases r<;>try (cases hv;done)
 rename_i s;unfold sJ;simp only [he];rw [kM];refine yS r1 r2 .none (λl h m h1 h2 h3 hv=>?_) hv;rw [CX,if_pos (by omega),zT,if_pos (by simp;omega)];exact hk _ _ .str hv
theorem aKE(s:VS P B Sbz c h S){t el:TypeId}{info:TypeInfo}{zero:List Value}{n:Nat}(he:isSlice P t=some el)(hi:P.info? el=some info)(hz:tX P el=some zero)(hl:Nat.beq zero.length info.size=true)(hn:info.size=n+1)(hf:rD bE zero=true){x y:V}{w u:Value}(r:fI c S C x w)(q:fI c S C y u){Kv:KV}{K:VK}(k:KR P B Sbz c h S Kv K)(hv:vMk el info.bytes zero x y h Kv):uS P t w u S K=true:=by
 unfold vMk at hv;cases r<;>try (cases hv;done)
 rename_i j z;cases z with
 | negSucc n=>cases hv
 | ofNat l=>
 cases q<;>try (cases hv;done)
 rename_i j' z;cases z with
 | negSucc n=>cases hv
 | ofNat cc=>
  obtain⟨h1,h2,h3,hv⟩:=hv;unfold AD at hv;split at hv
  ·rename_i zs e
   rw [hn]at hl;unfold uS;simp only [he,hi,hz,jT h1,jT h2,jT h3,jT (show cc<=1099511627776 by omega),hl,hn,hf];rw [CL];obtain⟨c',h',i,a1,a2,a3,a4,a5⟩:=ZN s ((SN e).flatten cc) hv;rw [gZ];exact k c' h' _ _ _ a1 a2 a3 (.own a4) a5
  ·cases hv
end
section
variable{P:Program}{B:Nat->Prop}{Sbz:St}{c c' d:Cx}{h h':Hp}{S S':St}{C C':Nat->Prop}
theorem aAS(k:IntKind):BN k k=true:=by cases k<;>rfl
theorem aIy{t:TypeId}{ct:CT}(h:Cu P t=some ct):qV P t=true:=by
 unfold Cu at h;unfold qV;split at h<;>simp_all
theorem aLP{t:TypeId}{ct:CT}(hc:Cu P t=some ct){a b:V}{a' b':Value}(ha:fI c S C a a')(hb:fI c S C b b')(oa:aFA ct a)(ob:aFA ct b)(k:Bool->Bool):∃e:Bool,(e=true↔a=b)/\tY P t a' b' k=k e:=by
 unfold Cu at hc;split at hc
 ·rename_i ik hu
  injection hc with hc;subst hc;cases ha<;>try (cases oa;done)
  rename_i j x;cases hb<;>try (cases ob;done)
  rename_i j' y;have oa:j=ik:=oa;have ob:j'=ik:=ob;subst oa ob;refine⟨Hg x y,?_,?_⟩
  ·rw [uV]
   constructor
   ·intro h;rw [beq_iff_eq.1 h]
   ·intro h;injection h with _ h;subst h;simp
  ·unfold tY
   simp only [hu,aAS,oQ]
 ·rename_i hu
  injection hc with hc;subst hc;cases ha<;>try (cases oa;done)
  rename_i x;cases hb<;>try (cases ob;done)
  rename_i y;refine⟨Gj x y,?_,?_⟩
  ·rw [FJ]
   constructor
   ·intro h;rw [beq_iff_eq.1 h]
   ·intro h;injection h with h;subst h;simp
  ·unfold tY
   simp only [hu,oQ]
 ·rename_i hu
  injection hc with hc;subst hc;cases ha<;>try (cases oa;done)
  rename_i x;cases hb<;>try (cases ob;done)
  rename_i y;refine⟨x==y,?_,?_⟩
  ·constructor
   ·intro h;rw [beq_iff_eq.1 h]
   ·intro h;injection h with h;subst h;simp
  ·unfold tY
   simp only [hu,oQ]
 ·cases hc
theorem aIz{k:Bool->Bool}:∀{fs:List Field} {l:List CT} {a b:List V} {a' b':List Value},JB P fs=some l->kW c S C a a'->kW c S C b b'->UE l a->UE l b->∃e:Bool,(e=true↔a=b)/\KW P fs a' b' k=k e:=by
 intro fs;induction fs with
 | nil=>
  intro l a b a' b' hl ha hb oa ob;simp [JB]at hl;subst hl;cases a with
  | cons=>cases oa
  | nil=>cases b with
   | cons=>cases ob
   | nil=>exact⟨true,by simp,rfl⟩
 | cons f fs ih=>
  intro l a b a' b' hl ha hb oa ob;unfold JB at hl;split at hl
  ·rename_i ct hct
   split at hl
   ·rename_i l' Sj
    injection hl with hl;subst hl;cases a with
    | nil=>cases oa
    | cons x a=>cases b with
     | nil=>cases ob
     | cons y b=>
      obtain⟨x',a'',rfl,rx,ra⟩:=ha.cons_inv;obtain⟨y',b'',rfl,ry,rb⟩:=hb.cons_inv;obtain⟨e2,g3,g4⟩:=ih Sj ra rb oa.2 ob.2;obtain⟨e1,g1,g2⟩:=aLP hct rx ry oa.1 ob.1 (λe=>match e with | true=>KW P fs a'' b'' k | false=>k false);refine⟨e1&&e2,?_,?_⟩
      ·rw [bW,g1,g3];simp
      ·show tY P f.type x' y' (λe=>match e with | true=>KW P fs a'' b'' k | false=>k false)=_
       rw [g2];cases e1 with
       | true=>exact g4
       | false=>rfl
   ·cases hl
  ·cases hl
theorem aO6{t:TypeId}{sh:KSh}(hs:ZI P t=some sh){a b:V}{a' b':Value}(ha:fI c S C a a')(hb:fI c S C b b')(oa:WA sh a)(ob:WA sh b)(k:Bool->Bool):∃e:Bool,(e=true↔a=b)/\DZ P t a' b' k=k e:=by
 unfold ZI at hs;split at hs
 ·rename_i ct hct
  injection hs with hs;subst hs;obtain⟨e,g1,g2⟩:=aLP hct ha hb oa ob k;refine⟨e,g1,?_⟩;rw [<-g2];unfold DZ;split
  ·rename_i xs ys
   cases ha<;>cases ct<;>cases oa
  ·rfl
 ·split at hs
  ·rename_i fs hfs
   split at hs
   ·rename_i l hl
    injection hs with hs;subst hs;cases ha<;>try (cases oa;done)
    cases hb<;>try (cases ob;done)
    rename_i xs xs' la rxa ys ys' lb ryb;obtain⟨e,g1,g2⟩:=aIz (k:=k) hl ⟨la,rxa⟩ ⟨lb,ryb⟩ oa ob;refine⟨e,?_,?_⟩
    ·rw [g1];simp
    ·show oX P t (.agg ⟨xs'⟩) (.agg ⟨ys'⟩) k=_
     unfold oX;simp only [hfs];exact g2
   ·cases hs
  ·cases hs
theorem aEo{ct:CT}{v:V}{w:Value}(r:fI c S C v w)(o:aFA ct v):bE w=true:=by
 cases r<;>first | rfl | (cases ct<;>cases o)
theorem aIA:∀{l:List CT} {a:List V} {a':List Value},kW c S C a a'->UE l a->a'.all bE=true/\a'.length=l.length:=by
 intro l;induction l with
 | nil=>intro a a' r o;cases a with | cons=>cases o | nil=>rw [r.nK];exact⟨rfl,rfl⟩
 | cons ct l ih=>
  intro a a' r o;cases a with
  | nil=>cases o
  | cons x a=>
   obtain⟨x',a'',rfl,rx,ra⟩:=r.cons_inv;obtain⟨h1,h2⟩:=ih ra o.2;exact⟨by simp [aEo rx o.1,h1],by simp [h2]⟩
theorem aAT:∀{fs:List Field} {l:List CT},JB P fs=some l->fs.length=l.length:=by
 intro fs;induction fs with
 | nil=>intro l h;simp [JB]at h;subst h;rfl
 | cons f fs ih=>
  intro l h;unfold JB at h;split at h
  ·split at h
   ·rename_i hl;injection h with h;subst h;simp [ih hl]
   ·cases h
  ·cases h
theorem aAU{t:TypeId}{sh:KSh}(hs:ZI P t=some sh){a:V}{a':Value}(ha:fI c S C a a')(oa:WA sh a):NV P t a'=true:=by
 unfold ZI at hs;split at hs
 ·rename_i ct hct
  injection hs with hs;subst hs;have hf:=aEo ha oa;have h1:jV a'=true:=by cases a'<;>first | exact hf | (simp [bE]at hf)
  unfold NV;simp only [h1,aIy hct]
 ·rename_i hn
  split at hs
  ·rename_i fs hfs
   split at hs
   ·rename_i l hl
    injection hs with hs;subst hs;cases ha<;>try (cases oa;done)
    rename_i xs xs' la rxa;obtain⟨h1,h2⟩:=aIA ⟨la,rxa⟩ oa;have h1:jV (.agg ⟨xs'⟩)=true:=h1;unfold NV;have h3:Nat.ble fs.length xs'.length=true:=jT (by rw [aAT hl,h2];exact bI _);simp only [h1];cases qV P t with
    | true=>rfl
    | false=>simp only [hfs,h3]
   ·cases hs
  ·cases hs
theorem bytes_beq(l:List UInt8):((⟨⟨l⟩⟩:ByteArray)==⟨⟨l⟩⟩)=true:=by
 show ByteArray.beq ⟨⟨l⟩⟩ ⟨⟨l⟩⟩=true;unfold ByteArray.beq;simp
theorem aEp{n:Nat}{ct:CT}{v:V}{w:Value}(r:fI c S C v w)(o:aFA ct v):Instr.sameBits n w w=true:=by
 cases r<;>first | (cases ct<;>cases o;done) | (cases n<;>first | exact bytes_beq _ | (simp [Instr.sameBits];done))
theorem aIB{n:Nat}:∀{l:List CT} {a:List V} {a':List Value},kW c S C a a'->UE l a->((a'.zip a').all λ(x,y)=>Instr.sameBits n x y)=true:=by
 intro l;induction l with
 | nil=>intro a a' r o;cases a with | cons=>cases o | nil=>rw [r.nK];rfl
 | cons ct l ih=>
  intro a a' r o;cases a with
  | nil=>cases o
  | cons x a=>
   obtain⟨x',a'',rfl,rx,ra⟩:=r.cons_inv;simp [aEp rx o.1];have:=ih ra o.2;simpa using this
theorem aKH{sh:KSh}{a:V}{a':Value}(ha:fI c S C a a')(oa:WA sh a)(n:Nat):Instr.sameBits (n+1) a' a'=true:=by
 cases sh with
 | one ct=>exact aEp ha oa
 | many l=>
  cases ha<;>try (cases oa;done)
  rename_i xs xs' la rxa;have:=aIB (n:=n) (⟨la,rxa⟩:kW c S C xs xs') oa;simp only [Instr.sameBits];simpa using this
def EsR(c:Cx)(S:St)(C:Nat->Prop)(es:List (V×V))(iW:List MapEntry):Prop:=es.length=iW.length/\∀(k:Nat) (x:V×V) (y:MapEntry),es[k]? =some x->iW[k]? =some y->fI c S C x.1 y.key/\fI c S C x.2 y.val
theorem EsR.tail{x:V×V}{y:MapEntry}{es:List (V×V)}{iW:List MapEntry}(r:EsR c S C (x::es) (y::iW)):EsR c S C es iW:=⟨by simpa using r.1,λk a b p q=>r.2 (k+1) a b (by simpa using p) (by simpa using q)⟩
theorem aAV{t:TypeId}{sh:KSh}(hs:ZI P t=some sh){a:V}{a':Value}(ha:fI c S C a a')(oa:WA sh a)(k:Option (Nat×MapEntry)->Bool):∀{es:List (V×V)} {iW:List MapEntry} (i:Nat),EsR c S C es iW->(∀e∈es,WA sh e.1)->
 (Gy es a=none/\(∀x,Cv es a x=es++[(a,x)])/\fS (β:=Nat->Bool) (λ_=>k none) (λe _ ih i=>DZ P t a' e.key λb=>match b with | true=>k (some (i,e)) | false=>cG (Nat.succ i) ih) iW i=k none)\/
 ∃j v e',Gy es a=some v/\iW[j]? =some e'/\e'.key=a'/\fI c S C v e'.val/\(∀x,Cv es a x=es.set j (a,x))/\fS (β:=Nat->Bool) (λ_=>k none) (λe _ ih i=>DZ P t a' e.key λb=>match b with | true=>k (some (i,e)) | false=>cG (Nat.succ i) ih) iW i=k (some (i+j,e')):=by
 intro es;induction es with
 | nil=>
  intro iW i r ho;have:iW=[]:=mS (by simpa using r.1.symm);subst this;exact .inl ⟨rfl,λx=>rfl,rfl⟩
 | cons x es ih=>
  intro iW i r ho;cases iW with
  | nil=>have:=r.1;simp at this
  | cons y iW=>
   have r0:=r.2 0 x y rfl rfl;rw [aS];obtain⟨e,g1,g2⟩:=aO6 hs ha r0.1 oa (ho x (.head _)) (λb=>match b with | true=>k (some (i,y)) | false=>cG (Nat.succ i) (fS (β:=Nat->Bool) (λ_=>k none) (λe _ ih i=>DZ P t a' e.key λb=>match b with | true=>k (some (i,e)) | false=>cG (Nat.succ i) ih) iW));rw [g2];by_cases he:a=x.1
   ·have:e=true:=g1.2 he
    subst this;refine .inr ⟨0,x.2,y,by simp [Gy,he],rfl,?_,r0.2,λz=>by simp [Cv,he],rfl⟩;have:=r0.1;rw [<-he]at this;exact this.fn ha
   ·have:e=false:=by cases e with | false=>rfl | true=>exact absurd (g1.1 rfl) he
    subst this;rw [bA];rcases ih (i+1) r.tail (λe he=>ho e (.tail _ he))with ⟨q1,q2,q3⟩ | ⟨j,v,e',q1,q2,q3,q4,q5,q6⟩
    ·exact .inl ⟨by simp [Gy,he,q1],λz=>by simp [Cv,he,q2 z],q3⟩
    ·refine .inr ⟨j+1,v,e',by simp [Gy,he,q1],by simpa using q2,q3,q4,λz=>by simp [Cv,he,q5 z],?_⟩
     rw [show i+(j+1)=i+1+j by omega];exact q6
theorem VS.map(s:VS P B Sbz c h S){i:Nat}{es:List (V×V)}(e:h i=some (.map es)):∃b iW ck,c.Z i=some b/\S.obj b=some (.map iW ck)/\EsR c S (cY B c h) es iW:=by
 obtain⟨b,a,a1,a2,a3,a4,iW,ck,rfl,_,a5,a6⟩:=s.ob i _ e rfl;exact⟨b,iW,ck,a1,a4,a5,a6⟩
theorem VS.aM5(s:VS P B Sbz c h S){i:Nat}{es:List (V×V)}(e:h i=some (.map es)):∃b iW ck,c.Z i=some b/\S.obj b=some (.map iW ck)/\EsR c S (cY B c h) es iW/\HN iW ck:=by
 obtain⟨b,a,a1,a2,a3,a4,iW,ck,rfl,a7,a5,a6⟩:=s.ob i _ e rfl;exact⟨b,iW,ck,a1,a4,⟨a5,a6⟩,a7⟩
theorem aC3{b:Nat}{es:List MapEntry}{ck:Nat}(e:S.obj b=some (.map es ck))(k:Option Nat->List MapEntry->Nat->Bool):Ry S (.map (some b)) k=k (some b) es ck:=by
 show oV S.h b _=_;rw [lV];have e:S.h.get b=some (.map es ck):=e;rw [e]
theorem aFQ(s:VS P B Sbz c h S){t kt et:TypeId}{sh:KSh}{z:Value}{zv:V}{ok:Bool}(ht:EA P t=some (kt,et))(hs:ZI P kt=some sh)(hz:zeroV P et=some z)(hzv:ofC z=some zv){m a:V}{w u:Value}(r:fI c S (cY B c h) m w)(q:fI c S (cY B c h) a u){Kv:KV}{K:VK}(k:KR P B Sbz c h S Kv K)(hv:ZJ sh zv ok m a h Kv):SD P t w u ok S K=true:=by
 unfold ZJ at hv;split at hv
 ·rename_i i
  cases r with
  | sP hZ=>
   split at hv
   ·rename_i es e
    obtain⟨oa,ho,hv1,Sw⟩:=hv;obtain⟨b,iW,ck,a1,a2,a3⟩:=s.map e;rw [hZ]at a1;injection a1 with a1;subst a1;obtain⟨hf,rz⟩:=aIc (c:=c) (S:=S) (C:=cY B c h) hzv;unfold SD;simp only [ht,hz,aAU hs q oa];rw [aC3 a2];unfold Eb
    rcases aAV hs q oa (λr=>match(generalizing:=false) r with
     | some (_,e)=>match(generalizing:=false) ok with | true=>K (.tuple ⟨[e.val,.bool true]⟩) S | false=>K e.val S
     | none=>match(generalizing:=false) jV z with
      | true=>match(generalizing:=false) ok with | true=>K (.tuple ⟨[z,.bool false]⟩) S | false=>K z S
      | false=>false) 0 a3 ho with ⟨q1,_,q3⟩ | ⟨j,v,e',q1,q2,q3,q4,_,q6⟩
    ·refine q3.trans ?_
     simp only [hf];cases ok with
     | true=>exact k.here s (.tuple (kW.cons rz (.cons .bool .nil)).len (kW.cons rz (.cons .bool .nil)).rd) (Sw q1)
     | false=>exact k.here s rz (Sw q1)
    ·refine q6.trans ?_
     cases ok with
     | true=>exact k.here s (.tuple (kW.cons q4 (.cons .bool .nil)).len (kW.cons q4 (.cons .bool .nil)).rd) (hv1 v q1)
     | false=>exact k.here s q4 (hv1 v q1)
   ·cases hv
 ·cases hv
theorem aCW(s:VS P B Sbz c h S){t kt et:TypeId}{sh:KSh}(ht:EA P t=some (kt,et))(hs:ZI P kt=some sh){m a x:V}{w u y:Value}(r:fI c S (cY B c h) m w)(q:fI c S (cY B c h) a u)(rx:fI c S (cY B c h) x y){Kv:KV}{K:VK}(k:KR P B Sbz c h S Kv K)(hv:Cw sh m a x h λh=>Kv MZ h):BP P t w u y S (λS=>K undef S)=true:=by
 unfold Cw at hv;split at hv
 ·rename_i i
  cases r with
  | sP hZ=>
   split at hv
   ·rename_i es e
    obtain⟨oa,ho,hv⟩:=hv;obtain⟨b,iW,ck,a1,a2,a3,a8⟩:=s.aM5 e;have a1':=a1;rw [hZ]at a1;injection a1 with a1;subst a1;unfold BP;simp only [ht,aAU hs q oa];rw [aC3 a2];simp only;unfold Eb
    have fin:∀es2 ck2,HN es2 ck2->EsR c S (cY B c h) (Cv es a x) es2->K undef (S.set _ (.map es2 ck2))=true:=λes2 ck2 b2 r2=>by
     obtain⟨s1,f1⟩:=s.Qn e rfl hZ (o:= .map (Cv es a x)) rfl (ao:= .map es2 ck2) λS' C' f=>⟨es2,ck2,rfl,b2,r2.1,λk x y p q=>⟨(r2.2 k x y p q).1.mono (.refl c) f,(r2.2 k x y p q).2.mono (.refl c) f⟩⟩;exact k c _ _ MZ undef (.refl c) f1 s1 (.tuple (a':=[]) rfl λk v w e=>by simp at e) hv
    rcases aAV hs q oa (λf=>match f with
     | some (i,e)=>match Instr.sameBits 10000 e.key u with
      | true=>aDu {e with val:=y} iW i λes=>rE S _ (.map es ck) λS=>K undef S
      | false=>false
     | none=>zN iW [{key:=u,val:=y,born:=ck}] λes=>cG (Nat.succ ck) λc=>rE S _ (.map es c) λS=>K undef S) 0 a3 ho with ⟨q1,q2,q3⟩ | ⟨j,v,e',q1,q2,q3,q4,q5,q6⟩
    ·refine q3.trans ?_
     rw [lE,bA,gR];refine fin _ _ (a8.app rfl) ?_;rw [q2 x];refine⟨by simp [a3.1],λk p p' e1 e2=>?_⟩;by_cases hk:k<es.length
     ·rw [fB hk]at e1
      rw [fB (by rw [<-a3.1];exact hk)]at e2;exact a3.2 k p p' e1 e2
     ·rw [iG (by omega)]at e1
      rw [iG (by rw [<-a3.1];omega),<-a3.1]at e2;cases hq:k-es.length with
      | zero=>
       rw [hq]at e1 e2;simp at e1 e2;subst e1 e2;exact⟨q,rx⟩
      | succ n=>rw [hq]at e1;simp at e1
    ·refine q6.trans ?_
     simp only [gB,q3];rw [aKH q oa 9999];simp only;rw [Jp,gR];refine fin _ _ (a8.set q2 rfl) ?_;rw [q5 x];refine⟨by simp [a3.1],λk p p' e1 e2=>?_⟩;by_cases hk:k=j
     ·subst hk
      rw [Iv,if_pos rfl]at e1 e2;split at e1
      ·rename_i hlt
       rw [if_pos (by rw [<-a3.1];exact hlt)]at e2;injection e1 with e1;injection e2 with e2;subst e1 e2;exact⟨q,rx⟩
      ·cases e1
     ·rw [UO (dB hk)]at e1 e2
      exact a3.2 k p p' e1 e2
   ·cases hv
 ·cases hv
theorem Fj(s:VS P B Sbz c h S){Kv:KV}{K:VK}(k:KR P B Sbz c h S Kv K)(hv:Id h Kv):uH S (.map [] 0) (λi S=>K (.map (some i)) S)=true:=by
 obtain⟨i,e1,e2,e3⟩:=s.fresh;obtain⟨s1,l1,f1,i1⟩:=s.aEi e1 e2 e3 (o:= .map []) (ao:= .map [] 0) rfl λ_ _ _ _ _=>⟨[],0,rfl,⟨.nil,λe he=>by cases he⟩,rfl,λk x y p=>by simp at p⟩;rw [gZ];exact k _ _ _ _ _ l1 f1 s1 (.sP i1) (hv i e1)
theorem Vf(s:VS P B Sbz c h S){r:V}{w:Value}(rr:fI c S C r w){t:TypeId}{kv:TypeId×TypeId}(ht:EA P t=some kv){Kv:KV}{K:VK}(k:KR P B Sbz c h S Kv K)(hv:Lp r h Kv):
 (match(generalizing:=false) w,EA P t with | .int _ _,some _=>uH S (.map [] 0) (λi S=>K (.map (some i)) S) | _,_=>false)=true:=by
 unfold Lp at hv;split at hv
 ·cases rr
  rw [ht];exact Fj s k hv
 ·cases hv
theorem aFP(s:VS P B Sbz c h S){t kt et:TypeId}(hu:P.underlying t=some (.map kt et)){x:V}{w:Value}(r:fI c S (cY B c h) x w){Kv:KV}{K:VK}(k:KR P B Sbz c h S Kv K)(hv:aHW x h Kv):nY P .len [t] [w] S K=true:=by
 unfold aHW at hv;split at hv
 ·rename_i i
  cases r with
  | sP hZ=>
   split at hv
   ·rename_i es e
    obtain⟨b,iW,ck,a1,a2,a3⟩:=s.map e;rw [hZ]at a1;injection a1 with a1;subst a1;have hm:EA P t=some (kt,et):=by unfold EA;rw [hu]
    simp only [nY,hm];rw [aC3 a2,kM,<-a3.1];exact k.here s .int hv
   ·cases hv
 ·cases hv
theorem aAO(s:VS P B Sbz c h S){t:TypeId}{kv:TypeId×TypeId}(ht:EA P t=some kv){x:V}{w:Value}(r:fI c S (cY B c h) x w){Kv:KV}{K:VK}(k:KR P B Sbz c h S Kv K)(hv:Uq x h Kv):XJ P t w S K=true:=by
 unfold Uq at hv;split at hv
 ·rename_i m
  cases r with
  | sP hZ=>
   split at hv
   ·rename_i es e
    obtain⟨b,iW,ck,a1,a2,a3,a4⟩:=s.aM5 e;rw [hZ]at a1;injection a1 with a1;subst a1;have Kc:(iW.map (·.born)).length=es.length:=by rw [jB];exact a3.1.symm
    have TC:∀x∈iW.map (·.born),x<ck:=λx hx=>by
     obtain⟨y,hy,rfl⟩:=mF.1 hx;exact a4.2 y hy
    obtain⟨s1,hL⟩:=s.aO5 e rfl hZ (o:= .ZG es (iW.map (·.born)) ck) rfl λa C' ha q=>by
     rw [a2]at ha;injection ha with ha;subst ha;obtain⟨es2,ck2,q1,q2,q3,q4⟩:=q;injection q1 with q1 q5;subst q1 q5;exact⟨_,rfl,rfl,q2,q3,q4⟩
    obtain⟨i,e1,e2,e3⟩:=s1.fresh;obtain⟨s2,l2,f2,i2⟩:=s1.aEi e1 e2 e3 (o:= .iter m ck [] ck) (ao:= .iter (some _) ck [] ck) rfl λd _ _ ld _=>⟨_,rfl,ld.Z _ _ hZ⟩;unfold XJ;rw [ht];show oV S.h _ _=true;have a2:S.h.get _=some (.map iW ck):=a2;rw [lV,a2];show uH S (.iter (some _) ck [] ck) (λi S=>K (.pointer (some ⟨i,0,none⟩)) S)=true;rw [gZ];rw [hL]at f2;exact k _ _ _ _ _ l2 f2 s2 (.ptr i2) (hv _ ck Kc a4.1 TC i e1)
   ·cases hv
 ·cases hv
theorem VS.iter(s:VS P B Sbz c h S){i m since last:Nat}{seen:List Nat}(e:h i=some (.iter m since seen last)):∃b r,c.Z i=some b/\S.obj b=some (.iter (some r) since seen last)/\c.Z m=some r:=by
 obtain⟨b,a,a1,a2,a3,a4,r,rfl,a5⟩:=s.ob i _ e rfl;exact⟨b,r,a1,a4,a5⟩
theorem VS.ZG(s:VS P B Sbz c h S){i ck:Nat}{es:List (V×V)}{bs:List Nat}(e:h i=some (.ZG es bs ck)):∃b iW,c.Z i=some b/\S.obj b=some (.map iW ck)/\iW.map (·.born)=bs/\HN iW ck/\EsR c S (cY B c h) es iW:=by
 obtain⟨b,a,a1,a2,a3,a4,iW,rfl,a7,a8,a5,a6⟩:=s.ob i _ e rfl;exact⟨b,iW,a1,a4,a7,a8,a5,a6⟩
theorem aCX(s:VS P B Sbz c h S){x:V}{w:Value}(r:fI c S (cY B c h) x w){Kv:KV}{K:VK}(k:KR P B Sbz c h S Kv K)(hv:aCI x h Kv):aDx w S K=true:=by
 unfold aCI at hv;split at hv
 ·rename_i i
  cases r with
  | ptr hZ=>
   rename_i bb;split at hv
   ·rename_i m since seen last ei
    split at hv
    ·rename_i es bs ck em
     obtain⟨hbs,hsl,hv1,Sw⟩:=hv;obtain⟨b,rr,a1,a2,a3⟩:=s.iter ei;rw [hZ]at a1;injection a1 with a1;subst a1;obtain⟨b2,iW,c1,c2,c3,c4,c5⟩:=s.ZG em;rw [a3]at c1;injection c1 with c1;subst c1;show oV S.h _ _=true;have a2':S.h.get _=some (.iter (some rr) since seen last):=a2;have c2':S.h.get rr=some (.map iW ck):=c2;rw [lV,a2'];show oV S.h rr _=true;rw [lV,c2']
     have h1:rD (λe:MapEntry=>Nat.blt e.born since) iW=true:=by
      rw [jZ,dJ];intro e he;exact jT (hbs _ (by rw [<-c3];exact mF.2 ⟨e,he,rfl⟩))
     simp only [h1,jT hsl];rw [Xx]
     have zA:(iW.filter (λe=> !seen.contains e.born)).all (λe=>zN seen [e.born] λseen=>rE S bb (.iter (some rr) since seen ck) λS=>K (.tuple ⟨[.bool true,e.key,e.val]⟩) S)=true:=by
      rw [dJ];intro e he;obtain⟨Tj,he2⟩:=gE.1 he;obtain⟨j,hj,rfl⟩:=MG Tj;have Hn:j<es.length:=by rw [c5.1];exact hj
      have hns:¬iW[j].born∈seen:=by simpa using he2
      rw [lE,gR];obtain⟨s1,f1⟩:=s.Qn ei rfl hZ (o:= .iter m since (seen++[iW[j].born]) ck) rfl (ao:= .iter (some rr) since (seen++[iW[j].born]) ck) λS' C' f=>⟨rr,rfl,a3⟩;obtain⟨q1,q2⟩:=c5.2 j _ _ (aP Hn) (aP hj);refine k c _ _ _ _ (.refl c) f1 s1 ?_ (Sw j es[j] iW[j].born (aP Hn) (by rw [<-c3,jA,aP hj];rfl) hns);have rl:kW c (S.set bb (.iter (some rr) since (seen++[iW[j].born]) ck)) (cY B c (aM h i (.iter m since (seen++[iW[j].born]) ck))) [.bool true,es[j].1,es[j].2] [.bool true,iW[j].key,iW[j].val]:= .cons .bool (.cons (q1.mono (.refl c) f1) (.cons (q2.mono (.refl c) f1) .nil));exact .tuple rl.len rl.rd
     cases hf:iW.filter (λe=> !seen.contains e.born)with
     | nil=>
      have PU:∀b∈bs,b∈seen:=by
       intro b hb;rw [<-c3]at hb;obtain⟨e,he,rfl⟩:=mF.1 hb;by_cases hc:e.born∈seen
       ·exact hc
       ·have:e∈iW.filter (λe=> !seen.contains e.born):=gE.2 ⟨he,by simpa using hc⟩
        rw [hf]at this;cases this
      obtain⟨s1,hL⟩:=s.aO5 em rfl a3 (o:= .map es) rfl λa C' ha q=>by
       obtain⟨es2,q1,q2,q3,q4,q5⟩:=q;exact⟨es2,ck,q1,q3,q4,q5⟩
      refine k c _ _ _ _ (.refl c) (by rw [hL];exact .refl _ _) s1 ?_ (hv1 PU);have rl:kW c S (cY B c (aM h m (.map es))) [.bool false] [.bool false]:= .cons .bool .nil;exact .tuple rl.len rl.rd
     | cons e t=>
      rw [hf]at zA;simp only [jZ];exact zA
    ·cases hv
   ·cases hv
 ·cases hv
theorem aIC{l:List Nat}{b:Nat}{k:Nat->Bool}(h:l.getLast?=some b):Xq l k=k b:=by
 induction l with
 | nil=>cases h
 | cons n t ih=>
  cases t with
  | nil=>injection h with h;subst h;rfl
  | cons m t=>
   rw [List.getLast?_cons_cons]at h;exact ih h
theorem aC4{n:Nat}{k:Nat->MapEntry->Bool}:∀{es:List MapEntry} {j i:Nat} {e:MapEntry},(es.map (·.born)).Pairwise (· < ·)->es[j]? =some e->e.born=n->IR n k es i=k (i+j) e:=by
 intro es;induction es with
 | nil=>intro j i e _ h;simp at h
 | cons a es ih=>
  intro j i e hp he hb;rw [xU,tN]at hp;cases j with
  | zero=>
   simp at he;subst he;show(match Nat.beq a.born n with | true=>k i a | false=>cG (Nat.succ i) λi=>IR n k es i)=_;have:Nat.beq a.born n=true:=by rw [hb];simp
   rw [this,MJ]
  | succ j=>
   have he:es[j]? =some e:=by simpa using he
   have hlt:=hp.1 e.born (mF.2 ⟨e,wI he,rfl⟩);show(match Nat.beq a.born n with | true=>k i a | false=>cG (Nat.succ i) λi=>IR n k es i)=_;have:Nat.beq a.born n=false:=by cases hq:Nat.beq a.born n with | false=>rfl | true=>have:=cT hq;omega
   rw [this];show cG (Nat.succ i) (λi=>IR n k es i)=_;rw [bA];show IR n k es (Nat.succ i)=_;rw [ih hp.2 he hb]
   congr 1;omega
theorem aID{n:Nat}{k:Nat->MapEntry->Bool}{es:List MapEntry}{j:Nat}{e:MapEntry}(hp:(es.map (·.born)).Pairwise (· < ·))(he:es[j]? =some e)(hb:e.born=n):Pe n es k=k j e:=by
 have:=aC4 (k:=k) (i:=0) hp he hb;rw [gB]at this;exact this
theorem aAP(s:VS P B Sbz c h S){x:V}{w:Value}(r:fI c S (cY B c h) x w){Kv:KV}{K:VK}(k:KR P B Sbz c h S Kv K)(hv:Ur x h Kv):Sc w S K=true:=by
 unfold Ur at hv;split at hv
 ·rename_i i
  cases r with
  | ptr hZ=>
   rename_i bb;split at hv
   ·rename_i m since seen last ei
    split at hv
    ·rename_i es bs ck em
     obtain⟨rfl,hp,j,e,b0,h1,h2,h3,hv⟩:=hv;obtain⟨b,rr,a1,a2,a3⟩:=s.iter ei;rw [hZ]at a1;injection a1 with a1;subst a1;obtain⟨b2,iW,c1,c2,c3,c4,c5⟩:=s.ZG em;rw [a3]at c1;injection c1 with c1;subst c1;show oV S.h _ _=true;have a2':S.h.get _=some (.iter (some rr) since seen ck):=a2;have c2':S.h.get rr=some (.map iW ck):=c2;rw [lV,a2'];show oV S.h rr _=true;rw [lV,c2'];have hcc:Nat.beq ck ck=true:=by simp
     have hlt:Xq seen (λb=>Pe b iW λ_ e=>K (.tuple ⟨[e.key,e.val]⟩) S)=Pe b0 iW λ_ e=>K (.tuple ⟨[e.key,e.val]⟩) S:=aIC h3;simp only [hcc];rw [hlt];have hj:j<iW.length:=by rw [<-c5.1];exact(dS.1 h1).1
     have hb:iW[j].born=b0:=by
      rw [<-c3,jA,aP hj]at h2;exact Option.some.inj h2
     rw [aID c4.1 (aP hj) hb];obtain⟨q1,q2⟩:=c5.2 j _ _ h1 (aP hj);have rl:kW c S (cY B c h) [e.1,e.2] [iW[j].key,iW[j].val]:= .cons q1 (.cons q2 .nil);exact k.here s (.tuple rl.len rl.rd) hv
    ·cases hv
   ·cases hv
 ·cases hv
theorem aIq{op:BinOp}{t:TypeId}{a b:V}{u w:Value}(r:fI c S C a u)(q:fI c S C b w){Kv:V->Prop}{K:Value->Bool}(k:∀v w,fI c S C v w->Kv v->K w=true)(hv:aCH P op t a b Kv):aHb P op t u w K=true:=by
 rw [MY];unfold aCH at hv;split at hv
 ·rename_i l hl
  cases r<;>try (cases hv;done)
  rename_i xs xs' la rxa;cases q<;>try (cases hv;done)
  rename_i ys ys' lb ryb;obtain⟨ox,oy,hv⟩:=hv;unfold ZI at hl;split at hl
  ·cases hl
  ·split at hl
   ·rename_i fs hfs
    split at hl
    ·rename_i l' Sj
     injection hl with hl;injection hl with hl;subst hl
     have eq:∀kk:Bool->Bool,∃e:Bool,(e=true↔xs=ys)/\oX P t (.agg ⟨xs'⟩) (.agg ⟨ys'⟩) kk=kk e:=λkk=>by
      obtain⟨e,g1,g2⟩:=aIz (k:=kk) Sj ⟨la,rxa⟩ ⟨lb,ryb⟩ ox oy;refine⟨e,g1,?_⟩;unfold oX;simp only [hfs];exact g2
     cases op<;>first | (cases hv;done) | skip
     ·show oX P t (.agg ⟨xs'⟩) (.agg ⟨ys'⟩) (λe=>nX e K)=true
      obtain⟨e,g1,g2⟩:=eq λe=>nX e K;rw [g2,qE];cases e with
      | true=>exact k _ _ .bool (hv.1 (g1.1 rfl))
      | false=>exact k _ _ .bool (hv.2 λh=>by have:=g1.2 h;cases this)
     ·show oX P t (.agg ⟨xs'⟩) (.agg ⟨ys'⟩) (λe=>nX (!e) K)=true
      obtain⟨e,g1,g2⟩:=eq λe=>nX (!e) K;rw [g2,qE];cases e with
      | true=>exact k _ _ .bool (hv.1 (g1.1 rfl))
      | false=>exact k _ _ .bool (hv.2 λh=>by have:=g1.2 h;cases this)
    ·cases hl
   ·cases hl
 ·cases hv
end
end Go.Am
