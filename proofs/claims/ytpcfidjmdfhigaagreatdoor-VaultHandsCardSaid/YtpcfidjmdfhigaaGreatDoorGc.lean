/- AM: the operations with their types made out: the same as they are. -/
import Derived.Test.YtpcfidjmdfhigaaGreatDoorGb

noncomputable section
set_option maxRecDepth 100000
set_option linter.unusedVariables false
namespace Go.Am
open Go.RowKit Go.MapKept
section
variable{P:Program}
theorem Is{t:TypeId} (h:xV P t=some false) (a:Value) (S:St) (K:VK):PT P t a S K=rLd a S K:=by
 unfold PT rLd;simp only [h]<;>rfl
theorem Iu{t:TypeId}{n:Nat} (h:xV P t=some true) (hn:cQ P t=some n) (a:Value) (S:St) (K:VK):PT P t a S K=aIK n a S K:=by
 unfold PT aIK;simp only [h,hn]<;>rfl
theorem aBR{t:TypeId}{n:Nat} (hn:cQ P t=some n) (a x:Value) (S:St) (k:St->Bool):Ch P t a x S k=rSt n a x S k:=by
 unfold Ch rSt;simp only [hn]<;>rfl
theorem aBS{t:TypeId}{z:List Value} (hz:xC P t=some z) (hf:xU bW z=true) (S:St) (K:VK):WE P t S K=Iv z t S K:=by
 unfold WE Iv;simp only [hz,hf]
theorem Fh{s:TypeId}{f:Nat}{fd:Field}{n:Nat} (hf:DN P s f=some fd) (hn:cQ P fd.type=some (n+1)) (x:Value) (K:Value->Bool):FY P s x f K=aIL fd.offset x K:=by
 unfold FY aIL;simp only [hf,hn]<;>rfl
theorem Qk{t:TypeId}{f:Nat}{fd:Field} (hf:DN P t f=some fd) (h:xV P fd.type=some false) (x:Value) (K:Value->Bool):WD P t x f K=Ql fd.offset x K:=by
 unfold WD Ql;simp only [hf,Vj,h]<;>rfl
theorem Qm{t:TypeId}{f:Nat}{fd:Field}{n:Nat} (hf:DN P t f=some fd) (h:xV P fd.type=some true) (hn:cQ P fd.type=some n) (x:Value) (K:Value->Bool):WD P t x f K=Fi fd.offset n x K:=by
 unfold WD Fi;simp only [hf,Vj,h,hn]<;>rfl
theorem Fj{t e:TypeId}{n:Nat} (he:isSlice P t=some e) (hn:cQ P e=some n) (x ix:Value) (K:Value->Bool):FX P t x ix K=aL8 n x ix K:=by
 unfold FX aL8;simp only [he,hn,Kd he];cases ix<;>first | rfl | skip
 rename_i kk i;cases i<;>first | rfl | skip
 rename_i i;cases x<;>first | rfl | skip
 ·rename_i b;cases b<;>first | rfl | (rename_i a;obtain⟨b,o,sp⟩:=a;cases sp<;>rfl)
 ·rename_i b len cap;cases b with
  | none=>rfl
  | some a=>
   obtain⟨b,o,sp⟩:=a
   match sp with
   | none=>simp only;cases Nat.blt i len<;>rfl
   | some 0=>simp only;cases Nat.blt i len<;>rfl
   | some (_+1)=>rfl
theorem aIM{t e:TypeId} (he:isSlice P t=some e) (x:Value) (S:St) (K:VK):oZ P .len [t] [x] S K=aFj x fun v=>K v S:=by
 have hu:=Kd he;have hm:IU P t=none:=by unfold IU;rw [hu]
 cases x<;>simp only [oZ,aFj,he,hu,hm]
theorem aIN{t:TypeId} (hu:P.underlying t=some .string) (x:Value) (S:St) (K:VK):oZ P .len [t] [x] S K=aBT x fun v=>K v S:=by
 have hs:isSlice P t=none:=by unfold isSlice;rw [hu]
 have hm:IU P t=none:=by unfold IU;rw [hu]
 cases x<;>simp only [oZ,aBT,hs,hu,hm]
theorem Wg{sT xT el:TypeId}{info:TypeInfo}{n:Nat}{z:Value} (h1:isSlice P sT=some el) (h2:Tn (P.underlying xT)=true) (h3:P.info? el=some info) (h4:info.size=n+1) (h5:info.zero=some z) (h6:Nat.beq z.cells.size (n+1)=true)
 (s x:Value) (S:St) (K:VK):RW P [sT,xT] s x S K=aDI P el (n+1) info.bytes s x S K:=by
 unfold RW aDI;simp only [h1,h2,h3,h4,h5];cases s<;>simp only [h6]<;>rfl
end
def fbk (o:Oper):OpW:=⟨fun E A S K=>AN E o A S K⟩
structure PtW where
 f:bA->(List (Nat×Nat×Value)->Bool)->Bool
def LL (place:Nat->Option (Nat×Nat)) (ps:List (Nat×Operand)):PtW:=
 iD (β:=PtW) ⟨fun _ k=>k []⟩ (fun p _ ih=>match place p.1 with
  | some (off,size)=>⟨fun A k=>(AY p.2).f A fun v=>ih.f A fun l=>k ((off,size,v)::l)⟩
  | none=>⟨fun _ _=>false⟩) ps
def Lr (place:Nat->Option (Nat×Nat)) (p:Nat×Value):Nat×Nat×Value:=match place p.1 with | some (off,size)=>(off,size,p.2) | none=>(0,0,p.2)
theorem aDJ (place:Nat->Option (Nat×Nat)) (A:bA):∀(ps:List (Nat×Operand)) (k:List (Nat×Nat×Value)->Bool),(∀p∈ps,(place p.1).isSome=true)->(LL place ps).f A k=IS A ps fun l=>k (l.map (Lr place)):=by
 intro ps;induction ps with
 | nil=>intro k _;rfl
 | cons p ps ih=>
  intro k h;have hp:=h p (.head _);obtain⟨⟨off,size⟩,hq⟩:=Ht.1 hp
  have e1:LL place (p::ps)=⟨fun A k=>(AY p.2).f A fun v=>(LL place ps).f A fun l=>k ((off,size,v)::l)⟩:=by
   unfold LL;rw [bU];simp only [hq]
  rw [e1];show(AY p.2).f A _=wA A p.2 fun v=>IS A ps fun l=>k (((p.1,v)::l).map (Lr place));rw [lH]
  congr 1
  funext v
  have e:∀l:List (Nat×Value),((p.1,v)::l).map (Lr place)=(off,size,v)::l.map (Lr place):=fun l=>by simp [Lr,hq]
  simp only [e];exact ih (fun l=>k ((off,size,v)::l)) (fun q hq=>h q (.tail _ hq))
theorem Zm (A:bA):∀(ps:List (Nat×Operand)) (k k':List (Nat×Value)->Bool),(∀l,l.map Prod.fst=ps.map Prod.fst->k l=k' l)->IS A ps k=IS A ps k':=by
 intro ps;induction ps with
 | nil=>intro k k' h;exact h [] rfl
 | cons p ps ih=>
  intro k k' h;show(wA A p.2 fun v=>IS A ps fun l=>k ((p.1,v)::l))=wA A p.2 fun v=>IS A ps fun l=>k' ((p.1,v)::l)
  congr 1
  funext v
  exact ih _ _ fun l hl=>h _ (by simp [hl])
theorem aL9 (place:Nat->Option (Nat×Nat)) (k:List Value->Bool):∀(l:List (Nat×Value)) (cs:List Value),(∀p∈l,(place p.1).isSome=true)->Ak place l cs k=XJ (l.map (Lr place)) cs k:=by
 intro l;induction l with
 | nil=>intro cs _;rfl
 | cons p l ih=>
  intro cs h;obtain⟨⟨off,size⟩,hq⟩:=Ht.1 (h p (.head _))
  have e1:Ak place (p::l) cs k=match place p.1 with
   | some (off,size)=>pX p.2 fun new=>KW new fun m=>match Nat.beq m size with
    | true=>tP off new cs fun cs=>Ak place l cs k
    | false=>false
   | none=>false:=rfl
  have e2:XJ ((off,size,p.2)::l.map (Lr place)) cs k=pX p.2 fun new=>KW new fun m=>match Nat.beq m size with
   | true=>tP off new cs fun cs=>XJ (l.map (Lr place)) cs k
   | false=>false:=rfl
  have e3:(p::l).map (Lr place)=(off,size,p.2)::l.map (Lr place):=by simp [Lr,hq]
  have ih':(fun cs=>Ak place l cs k)=fun cs=>XJ (l.map (Lr place)) cs k:=by funext cs;exact ih cs fun q hq=>h q (.tail _ hq)
  rw [e1,e3,e2,hq,ih']
theorem Zn (place:Nat->Option (Nat×Nat)) (A:bA) (ps:List (Nat×Operand)) (cs:List Value) (k:List Value->Bool) (h:∀p∈ps,(place p.1).isSome=true):
 (IS A ps fun l=>Ak place l cs k)=(LL place ps).f A fun l=>XJ l cs k:=by
 rw [aDJ place A ps _ h];refine Zm A ps _ _ fun l hl=>aL9 place k l cs fun p hp=>?_;have:p.1∈ps.map Prod.fst:=by rw [<-hl];exact kS.2 ⟨p,hp,rfl⟩
 obtain⟨q,hq,e⟩:=kS.1 this;rw [<-e];exact h q hq
def aIO (P:Program) (c:Call):OpW:=
 match c.callee with
 | .builtin .len=>match c.argTypes.toList,c.args.toList with
  | [t],[a]=>match isSlice P t,P.underlying t with
   | some _,_=>⟨fun _ A S K=>(AY a).f A fun v=>aFj v fun v=>K v S⟩
   | none,some .string=>⟨fun _ A S K=>(AY a).f A fun v=>aBT v fun v=>K v S⟩
   | _,_=>WX P c
  | _,_=>WX P c
 | .builtin .append=>match c.argTypes.toList,c.args.toList with
  | [sT,xT],[a,b]=>match isSlice P sT,Tn (P.underlying xT)with
   | some el,true=>match P.info? el with
    | some info=>match info.size,info.zero with
     | n+1,some z=>match Nat.beq z.cells.size (n+1)with
      | true=>⟨fun _ A S K=>(AY a).f A fun a=>(AY b).f A fun b=>aDI P el (n+1) info.bytes a b S K⟩
      | false=>WX P c
     | _,_=>WX P c
    | none=>WX P c
   | _,_=>WX P c
  | _,_=>WX P c
 | .builtin _=>WX P c
 | .value f=>⟨fun E A S K=>(aDq c.args.toList).f A fun args=>(AY f).f A fun f=>aOL E.call E.round f args S K⟩
 | .invoke r m=>⟨fun E A S K=>(aDq c.args.toList).f A fun args=>(AY r).f A fun v=>aSK P E.call v m args S K⟩
theorem aIP (E:Env) (c:Call) (A:bA) (S:St) (K:VK):(aIO E.P c).f E A S K=nF E A c S K:=by
 unfold aIO;split
 ·rename_i hc
  split
  ·rename_i t a ht ha
   split
   ·rename_i _ _ e hs
    unfold nF;rw [hc,ha,ht];simp only [lH,WC,bU,wC,aIM hs]
   ·rename_i _ _ hs hu
    unfold nF;rw [hc,ha,ht];simp only [lH,WC,bU,wC,aIN hu]
   ·exact DX E c A S K
  ·exact DX E c A S K
 ·rename_i hc
  split
  ·rename_i sT xT a b ht ha
   split
   ·rename_i el hs hx
    split
    ·rename_i info hi
     split
     ·rename_i n z hn hz
      split
      ·rename_i Yh
       unfold nF;rw [hc,ha,ht];simp only [lH,WC,bU,wC]
       congr 1;funext a;congr 1;funext b
       exact(Wg hs hx hi hn hz Yh a b S K).symm
      ·exact DX E c A S K
     ·exact DX E c A S K
    ·exact DX E c A S K
   ·exact DX E c A S K
  ·exact DX E c A S K
 ·exact DX E c A S K
 ·rename_i f hc
  unfold nF;rw [hc];simp only [Et,lH]<;>rfl
 ·rename_i r m hc
  unfold nF;rw [hc];simp only [Et,lH]<;>rfl
def opX (P:Program) (o:Oper):OpW:=
 match o.op with
 | .pick c a b=>⟨fun E A S K=>(AY c).f A fun c=>(AY a).f A fun a=>(AY b).f A fun b=>shut E.most (aNJ c a b fun v=>K v S)⟩
 | .alloc t=>match xC P t with
  | some z=>match xU bW z with
   | true=>⟨fun _ _ S K=>Iv z t S K⟩
   | false=>fbk o
  | none=>fbk o
 | .build t ps=>match xC P t,P.underlying t with
  | some zero,some (.struct fields)=>match placesOf P fields.toList with
   | some pl=>match xU bW zero,ps.toList.all fun p=>(pl[p.1]?).isSome with
    | true,true=>⟨fun _ A S K=>(LL (pl[·]?) ps.toList).f A fun l=>aDK zero l fun v=>K v S⟩
    | _,_=>fbk o
   | none=>fbk o
  | some zero,some (.array _ elem)=>match cQ P elem with
   | some size=>match xU bW zero with
    | true=>⟨fun _ A S K=>(LL (fun i=>some (i*size,size)) ps.toList).f A fun l=>aDK zero l fun v=>K v S⟩
    | false=>fbk o
   | none=>fbk o
  | _,_=>fbk o
 | .buildSlice t len ps=>match isSlice P t with
  | some elem=>match cQ P elem,xC P elem with
   | some (size+1),some zero=>match Nat.ble (len*(size+1)) 16777216,Nat.beq zero.length (size+1)with
    | true,true=>match xU bW zero with
     | true=>⟨fun _ A S K=>aA3 zero len fun cs=>(LL (fun i=>some (i*(size+1),size+1)) ps.toList).f A fun l=>XJ l cs fun cs=>zT S (.cells cs elem .exact) fun i S=>K (.slice (some ⟨i,0,none⟩) len len) S⟩
     | false=>fbk o
    | _,_=>fbk o
   | _,_=>fbk o
  | none=>fbk o
 | .load t a=>match xV P t,cQ P t with
  | some false,_=>⟨fun _ A S K=>(AY a).f A fun a=>rLd a S K⟩
  | some true,some n=>⟨fun _ A S K=>(AY a).f A fun a=>aIK n a S K⟩
  | _,_=>fbk o
 | .store t a x=>match cQ P t with
  | some n=>⟨fun _ A S K=>(AY a).f A fun a=>(AY x).f A fun x=>rSt n a x S fun S=>K undef S⟩
  | none=>fbk o
 | .nilCheck x=>⟨fun _ A S K=>(AY x).f A fun v=>aMa P v fun v=>K v S⟩
 | .binOp op t x y _=>⟨fun _ A S K=>(AY x).f A fun a=>(AY y).f A fun b=>aIQ P op t a b fun v=>K v S⟩
 | .convert s d x=>match P.underlying s,P.underlying d with
  | some (.int _),some (.int k)=>⟨fun _ A S K=>(AY x).f A fun a=>aIR k a fun v=>K v S⟩
  | _,_=>opW P o
 | .fieldAddr s x f=>match DN P s f with
  | some fd=>match cQ P fd.type with
   | some (_+1)=>⟨fun _ A S K=>(AY x).f A fun x=>aIL fd.offset x fun v=>K v S⟩
   | _=>opW P o
  | none=>opW P o
 | .field t x f=>match DN P t f with
  | some fd=>match xV P fd.type,cQ P fd.type with
   | some false,_=>⟨fun _ A S K=>(AY x).f A fun x=>Ql fd.offset x fun v=>K v S⟩
   | some true,some n=>⟨fun _ A S K=>(AY x).f A fun x=>Fi fd.offset n x fun v=>K v S⟩
   | _,_=>opW P o
  | none=>opW P o
 | .indexAddr t x ix=>match isSlice P t with
  | some el=>match cQ P el with
   | some n=>⟨fun _ A S K=>(AY x).f A fun x=>(AY ix).f A fun ix=>aL8 n x ix fun v=>K v S⟩
   | none=>opW P o
  | none=>opW P o
 | .index t x ix=>match P.underlying t with
  | some .string=>⟨fun _ A S K=>(AY x).f A fun x=>(AY ix).f A fun ix=>Zo x ix fun v=>K v S⟩
  | _=>opW P o
 | .extract t i=>⟨fun _ A S K=>(AY t).f A fun v=>aIS i v fun v=>K v S⟩
 | .typeAssert x _ as ok=>⟨fun _ A S K=>(AY x).f A fun v=>aFk P as ok v fun v=>K v S⟩
 | .call c=>aIO P c
 | _=>opW P o
theorem aFl{P:Program}{s d:TypeId}{j k:IntKind} (hs:P.underlying s=some (.int j)) (hd:P.underlying d=some (.int k)) (x:Value) (S:St) (K:VK):Jw P s d x S K=aIR k x fun v=>K v S:=by
 cases x<;>simp only [Jw,aIR,hs,hd];rename_i b n c;cases b with
 | none=>rfl
 | some a=>obtain⟨b,o,sp⟩:=a;match sp with
  | none=>rfl
  | some 0=>rfl
  | some (_+1)=>rfl
theorem aBU{P:Program}{t:TypeId} (h:P.underlying t=some .string) (x ix:Value) (K:Value->Bool):Ib P t x ix K=Zo x ix K:=by
 unfold Ib Zo;simp only [h];cases ix<;>first | rfl | skip
 rename_i kk i;cases i<;>first | rfl | skip
 cases x<;>rfl
theorem XK (E:Env) (o:Oper) (A:bA) (S:St) (K:VK):(opX E.P o).f E A S K=AN E o A S K:=by
 unfold opX;split
 ·rename_i c a b h;unfold AN;rw [h];simp only [lH,Nh,aNJ]<;>rfl
 ·rename_i t h
  split
  ·rename_i z hz
   split
   ·rename_i hf;unfold AN;rw [h];exact(aBS hz hf S K).symm
   ·rfl
  ·rfl
 ·rename_i t ps h
  split
  ·rename_i zero fields hz hu
   split
   ·rename_i pl hp
    split
    ·rename_i hf ha
     unfold AN;rw [h];simp only [Ow,hz,hu,hp,hf];refine(Zn (pl[·]?) A ps.toList zero (fun cs=>K (.agg ⟨cs⟩) S) ?_).symm;intro p hp';exact dL.1 ha p hp'
    ·rfl
   ·rfl
  ·rename_i zero n elem hz hu
   split
   ·rename_i size hs
    split
    ·rename_i hf
     unfold AN;rw [h];simp only [Ow,hz,hu,hs,hf];exact(Zn (fun i=>some (i*size,size)) A ps.toList zero (fun cs=>K (.agg ⟨cs⟩) S) (fun p _=>rfl)).symm
    ·rfl
   ·rfl
  ·rfl
 ·rename_i t len ps h
  split
  ·rename_i elem hs
   split
   ·rename_i size zero hz My
    split
    ·rename_i h1 h2
     split
     ·rename_i hf
      unfold AN;rw [h];simp only [CH,hs,hz,My,h1,h2,hf]
      congr 1;funext cs
      exact(Zn (fun i=>some (i*(size+1),size+1)) A ps.toList cs _ (fun p _=>rfl)).symm
     ·rfl
    ·rfl
   ·rfl
  ·rfl
 ·rename_i t a h
  split
  ·rename_i h1;unfold AN;rw [h];simp only [lH,Is h1]
  ·rename_i n h1 h2;unfold AN;rw [h];simp only [lH,Iu h1 h2]
  ·rfl
 ·rename_i t a x h
  split
  ·rename_i n h1;unfold AN;rw [h];simp only [lH,aBR h1]
  ·rfl
 ·rename_i x h;unfold AN;rw [h];simp only [lH,aMa]<;>rfl
 ·rename_i op t x y yt h;unfold AN;rw [h];simp only [lH,SU]
 ·rename_i s d x h
  split
  ·rename_i j k h1 h2;unfold AN;rw [h];simp only [lH,aFl h1 h2]
  ·exact GF E o A S K
 ·rename_i s x f h
  split
  ·rename_i fd h1
   split
   ·rename_i n h2;unfold AN;rw [h];simp only [lH,Fh h1 h2]
   ·exact GF E o A S K
  ·exact GF E o A S K
 ·rename_i t x f h
  split
  ·rename_i fd h1
   split
   ·rename_i h2;unfold AN;rw [h];simp only [lH,Qk h1 h2]
   ·rename_i n h2 h3;unfold AN;rw [h];simp only [lH,Qm h1 h2 h3]
   ·exact GF E o A S K
  ·exact GF E o A S K
 ·rename_i t x ix h
  split
  ·rename_i el h1
   split
   ·rename_i n h2;unfold AN;rw [h];simp only [lH,Fj h1 h2]
   ·exact GF E o A S K
  ·exact GF E o A S K
 ·rename_i t x ix h
  split
  ·rename_i h1;unfold AN;rw [h];simp only [lH,aBU h1]
  ·exact GF E o A S K
 ·rename_i t i h;unfold AN;rw [h];simp only [lH,aIS]<;>rfl
 ·rename_i x xt as ok h;unfold AN;rw [h];simp only [lH,aFk]<;>rfl
 ·rename_i c h;unfold AN;rw [h];exact aIP E c A S K
 ·exact GF E o A S K
def aIT (v:Value) (T:Tm) (i:Nat) (k:Tm->Bool):Bool:=match T with
 | ⟨t,n⟩=>match Nat.blt i n with
  | true=>ZR v (Nat.succ i) t i fun t=>k ⟨t,n⟩
  | false=>false
theorem aIU (v:Value) (T:Tm) (i:Nat) (k:Tm->Bool):aIT v T i k=uU v T i k:=by cases T;rfl
def aOM (A:bA) (d:Tmp) (v:Value) (k:bA->Bool):Bool:=match A with
 | ⟨T,m,g⟩=>aIT v T d fun T=>k ⟨T,m,g⟩
theorem aFm (A:bA) (d:Tmp) (v:Value) (k:bA->Bool):aOM A d v k=uU v A.tmps d fun ts=>k ⟨ts,A.marks,A.g⟩:=by
 obtain⟨T,m,g⟩:=A;show aIT v T d (fun T=>k ⟨T,m,g⟩)=_;rw [aIU]
def aIV (P:Program) (o:Oper):Ps:=
 match o.dst with
 | some d=>⟨fun E A S k=>(opX P o).f E A S fun v S=>aOM A d v fun A=>k A S⟩
 | none=>⟨fun E A S k=>(opX P o).f E A S fun _ S=>k A S⟩
def doX (P:Program) (ops:Array Oper) (o:Oper):Ps:=
 match o.guard with
 | none=>aIV P o
 | some (j,w)=>match ops[j]? with
  | some o'=>match o'.dst with
   | some g=>match o.dst with
    | some d=>⟨fun E A S k=>YU A.tmps g fun b=>shut E.most (Zp w b (fun k=>(opX P o).f E A S k) S fun v S=>aOM A d v fun A=>k A S)⟩
    | none=>⟨fun E A S k=>YU A.tmps g fun b=>shut E.most (Zp w b (fun k=>(opX P o).f E A S k) S fun _ S=>k A S)⟩
   | none=>⟨fun E A S k=>Ck E ops o A S k⟩
  | none=>⟨fun E A S k=>Ck E ops o A S k⟩
theorem aIW (E:Env) (o:Oper) (A:bA) (S:St) (k:KS):(aIV E.P o).f E A S k=AN E o A S fun v S=>mV A o.dst v fun A=>k A S:=by
 unfold aIV mV;cases o.dst<;>simp only [XK,aFm]
theorem Qn (E:Env) (ops:Array Oper) (o:Oper) (A:bA) (S:St) (k:KS):(doX E.P ops o).f E A S k=Ck E ops o A S k:=by
 unfold doX;cases hg:o.guard with
 | none=>
  simp only [aIW];unfold Ck DO;rw [hg];rfl
 | some jw=>
  obtain⟨j,w⟩:=jw;simp only;cases ho:ops[j]? with
  | none=>rfl
  | some o'=>
   simp only;cases hd':o'.dst with
   | none=>rfl
   | some g=>
    simp only;cases hd:o.dst with
    | none=>
     unfold Ck DO mV;simp only [hg,ho,hd',hd,XK,Nh,Zp,Ku]<;>rfl
    | some d=>
     unfold Ck DO mV;simp only [hg,ho,hd',hd,XK,aFm,Nh,Zp,Ku]<;>rfl
def aON (P:Program) (ops:Array Oper) (l:List Oper):Ps:=
 iD (β:=Ps) ⟨fun _ A S k=>k A S⟩ (fun o _ ih=>⟨fun E A S k=>(doX P ops o).f E A S fun A S=>ih.f E A S k⟩) l
theorem aMb (E:Env) (ops:Array Oper):∀(l:List Oper) (A:bA) (S:St) (k:KS),(aON E.P ops l).f E A S k=ZT E ops l A S k:=by
 intro l;induction l with
 | nil=>intro A S k;rfl
 | cons o l ih=>
  intro A S k;show(doX E.P ops o).f E A S (fun A S=>(aON E.P ops l).f E A S k)=Ck E ops o A S fun A S=>ZT E ops l A S k;rw [Qn]
  congr 1
  funext A S
  exact ih A S k
def aG2 (o:Oper) (d:Tmp) (ops:Array Oper) (ih:ChW):ChW:=⟨fun E A S k=>YU A.tmps d fun u=>DO ops o A fun b=>gE b (AN E o A S fun v _=>match UB v u with | true=>ih.f E A S k | false=>false) (match u with | .tuple ⟨[]⟩=>ih.f E A S k | _=>false)⟩
def Qo (P:Program) (ops:Array Oper) (l:List Nat):ChW:=
 iD (β:=ChW) ⟨fun _ _ _ k=>k⟩ (fun i _ ih=>match ops[i]? with
  | some o=>match o.dst with
   | some d=>match o.guard with
    | none=>⟨fun E A S k=>YU A.tmps d fun u=>(opX P o).f E A S fun v _=>Wh v u (ih.f E A S k)⟩
    | some (j,w)=>match ops[j]? with
     | some o'=>match o'.dst with
      | some g=>⟨fun E A S k=>YU A.tmps d fun u=>YU A.tmps g fun b=>shut E.most (Zq w b u (fun k=>(opX P o).f E A S fun v _=>Wh v u k) (ih.f E A S k))⟩
      | none=>aG2 o d ops ih
     | none=>aG2 o d ops ih
   | none=>⟨fun _ _ _ _=>false⟩
  | none=>⟨fun _ _ _ _=>false⟩) l
theorem aG3 (P:Program) (ops:Array Oper) (i:Nat) (l:List Nat):Qo P ops (i::l)=match ops[i]? with
 | some o=>match o.dst with
  | some d=>match o.guard with
   | none=>⟨fun E A S k=>YU A.tmps d fun u=>(opX P o).f E A S fun v _=>Wh v u ((Qo P ops l).f E A S k)⟩
   | some (j,w)=>match ops[j]? with
    | some o'=>match o'.dst with
     | some g=>⟨fun E A S k=>YU A.tmps d fun u=>YU A.tmps g fun b=>shut E.most (Zq w b u (fun k=>(opX P o).f E A S fun v _=>Wh v u k) ((Qo P ops l).f E A S k))⟩
     | none=>aG2 o d ops (Qo P ops l)
    | none=>aG2 o d ops (Qo P ops l)
  | none=>⟨fun _ _ _ _=>false⟩
 | none=>⟨fun _ _ _ _=>false⟩:=rfl
theorem Zr (E:Env) (ops:Array Oper) (A:bA) (S:St) (k:Bool):∀(l:List Nat),(Qo E.P ops l).f E A S k=zU E ops A S l k:=by
 intro l;induction l with
 | nil=>rfl
 | cons i l ih=>
  rw [aG3,Ij];cases hi:ops[i]? with
  | none=>rfl
  | some o=>
   simp only;cases hd:o.dst with
   | none=>rfl
   | some d=>
    simp only;cases hg:o.guard with
    | none=>
     simp only [XK,ih,DO,hg,Wh];rfl
    | some jw=>
     obtain⟨j,w⟩:=jw;simp only;cases hj:ops[j]? with
     | none=>simp only [aG2,ih]<;>rfl
     | some o'=>
      simp only;cases hd':o'.dst with
      | none=>simp only [aG2,ih]<;>rfl
      | some g=>simp only [XK,ih,DO,hg,hj,hd',Nh,Zq,Ku,Wh,aQR]<;>rfl
def aMc (P:Program) (ops:Array Oper) (i:Nat) (o:Oper):OpW:=match fD P ops i with
 | none=>opX P o
 | some _=>⟨fun E A S K=>IX E ops i o A S K⟩
theorem aFn (E:Env) (ops:Array Oper) (i:Nat) (o:Oper) (A:bA) (S:St) (K:VK):(aMc E.P ops i o).f E A S K=IX E ops i o A S K:=by
 unfold aMc;cases h:fD E.P ops i with
 | none=>simp only [XK];unfold IX;rw [h]
 | some j=>rfl
def Wi (P:Program) (ops:Array Oper) (l:List Nat):Ps:=
 iD (β:=Ps) ⟨fun _ A S k=>k A S⟩ (fun i _ ih=>match ops[i]? with
  | some o=>⟨fun E A S k=>(aMc P ops i o).f E A S fun v S=>aOx o.dst v A fun A=>ih.f E A S k⟩
  | none=>⟨fun _ _ _ _=>false⟩) l
theorem Fk (E:Env) (ops:Array Oper):∀(l:List Nat) (A:bA) (S:St) (k:KS),(Wi E.P ops l).f E A S k=oH E ops l A S k:=by
 intro l;induction l with
 | nil=>intro A S k;rfl
 | cons i l ih=>
  intro A S k;unfold Wi oH at ih ⊢;rw [bU,bU];cases ops[i]? with
  | none=>rfl
  | some o=>
   simp only [aFn,aFh]
   congr 1
   funext v S
   congr 1
   funext A
   exact ih A S k
def aIX (P:Program) (ops:Array Oper) (l:List (Nat×List Nat)):ChW:=
 iD (β:=ChW) ⟨fun _ _ _ k=>k⟩ (fun p _ ih=>match ops[p.1]? with
  | some o=>⟨fun E A S k=>aDu A o (gE ((Wi P ops p.2).f E A S fun A S=>(aMc P ops p.1 o).f E A S fun _ _=>true) (ih.f E A S k) false)⟩
  | none=>⟨fun _ _ _ _=>false⟩) l
theorem Zs (E:Env) (ops:Array Oper) (A:bA) (S:St) (k:Bool):∀(l:List (Nat×List Nat)),(aIX E.P ops l).f E A S k=VG E ops A S l k:=by
 intro l;induction l with
 | nil=>rfl
 | cons p l ih=>
  unfold aIX VG at ih ⊢;rw [bU,bU];cases ops[p.1]? with
  | none=>rfl
  | some o=>simp only [Fk,aFn,ih]
def Fl (P:Program) (ops:Array Oper) (l:List zJ):Ps:=
 iD (β:=Ps) ⟨fun _ _ _ _=>false⟩ (fun s _ ih=>match s with
  | .take i=>match ops[i]? with
   | some o=>⟨fun E A S k=>(doX P ops o).f E A S fun A S=>ih.f E A S k⟩
   | none=>⟨fun _ _ _ _=>false⟩
  | .Vy BX nJ D r GH=>match ops[r]? with
   | some o=>⟨fun E A S k=>(Qo P ops BX).f E A S ((aIX P ops nJ).f E A S ((Wi P ops D).f E A S fun A S=>(doX P ops o).f E A S fun A S=>(Qo P ops GH).f E A S (ih.f E A S k)))⟩
   | none=>⟨fun _ _ _ _=>false⟩
  | .fin BX nJ D=>⟨fun E A S k=>(Qo P ops BX).f E A S ((aIX P ops nJ).f E A S ((Wi P ops D).f E A S k))⟩) l
theorem Cw (E:Env) (ops:Array Oper):∀(l:List zJ) (A:bA) (S:St) (k:KS),(Fl E.P ops l).f E A S k=mO E ops l A S k:=by
 intro l;induction l with
 | nil=>intro A S k;rfl
 | cons s l ih=>
  intro A S k;unfold Fl mO at ih ⊢;rw [bU,bU];cases s with
  | take i=>
   simp only;cases ops[i]? with
   | none=>rfl
   | some o=>simp only [Qn,ih]
  | Vy BX nJ D r GH=>
   simp only;cases ops[r]? with
   | none=>rfl
   | some o=>simp only [Qn,Zr,Zs,Fk,ih]
  | fin BX nJ D=>simp only [Zr,Zs,Fk]
def Fm (P:Program) (ops:Array Oper) (l:List zJ):Ps:=
 iD (β:=Ps) ⟨fun _ A S k=>k A S⟩ (fun s _ ih=>match s with
  | .take i=>match ops[i]? with
   | some o=>⟨fun E A S k=>(doX P ops o).f E A S fun A S=>ih.f E A S k⟩
   | none=>⟨fun _ _ _ _=>false⟩
  | .Vy BX nJ D r GH=>match ops[r]? with
   | some o=>⟨fun E A S k=>(Qo P ops BX).f E A S ((aIX P ops nJ).f E A S ((Wi P ops D).f E A S fun A S=>(doX P ops o).f E A S fun A S=>(Qo P ops GH).f E A S (ih.f E A S k)))⟩
   | none=>⟨fun _ _ _ _=>false⟩
  | .fin _ _ _=>⟨fun _ _ _ _=>false⟩) l
theorem aBV (E:Env) (ops:Array Oper):∀(l:List zJ) (A:bA) (S:St) (k:KS),(Fm E.P ops l).f E A S k=yT E ops l A S k:=by
 intro l;induction l with
 | nil=>intro A S k;rfl
 | cons s l ih=>
  intro A S k;unfold Fm yT at ih ⊢;rw [bU,bU];cases s with
  | take i=>
   simp only;cases ops[i]? with
   | none=>rfl
   | some o=>simp only [Qn,ih]
  | Vy BX nJ D r GH=>
   simp only;cases ops[r]? with
   | none=>rfl
   | some o=>simp only [Qn,Zr,Zs,Fk,ih]
  | fin BX nJ D=>rfl
def aDL (P:Program) (p:XH):Array Oper->Ps:=
 XH.rec (motive:=fun _=>Array Oper->Ps) (fun l ops=>Fl P ops l) (fun l g t b _ ih ops=>⟨fun E A S k=>(Fm P ops l).f E A S fun A S=>Fg A t b ((ih (fB ops g b)).f E A S k)⟩) p
theorem aG4 (E:Env):∀(p:XH) (ops:Array Oper) (A:bA) (S:St) (k:KS),(aDL E.P p ops).f E A S k=XI E p ops A S k:=by
 intro p;induction p with
 | fin l=>intro ops A S k;exact Cw E ops l A S k
 | cut l g t b r ih=>
  intro ops A S k;show(Fm E.P ops l).f E A S (fun A S=>Fg A t b ((aDL E.P r (fB ops g b)).f E A S k))=yT E ops l A S fun A S=>Fg A t b (XI E r (fB ops g b) A S k);rw [aBV]
  congr 1
  funext A S
  rw [ih]
def aG5 (P:Program) (ops:Array Oper) (draw:Bool):Ps:=
 match draw with
 | true=>match Fd P ops with
  | some l=>match QC l with
   | []=>Fl P ops l
   | ls=>⟨fun E A S k=>WZ ops ls A fun A=>(Fl P ops l).f E A S k⟩
  | none=>match LE ops with
   | true=>match Ff P (ops.size+1) ops ⟨List.replicate ops.size false⟩ []with
    | some p=>⟨fun E A S k=>WZ ops (Zl p) A fun A=>(aDL P p ops).f E A S k⟩
    | none=>⟨fun _ _ _ _=>false⟩
   | false=>⟨fun _ _ _ _=>false⟩
 | false=>aON P ops ops.toList
theorem aFo (E:Env) (ops:Array Oper) (draw:Bool) (A:bA) (S:St) (k:KS):(aG5 E.P ops draw).f E A S k=gE draw (drG E ops A S k) (ZT E ops ops.toList A S k):=by
 cases draw with
 | true=>
  unfold aG5 drG gE;simp only;cases Fd E.P ops with
  | none=>
   simp only;cases LE ops with
   | false=>rfl
   | true=>
    simp only;cases Ff E.P (ops.size+1) ops ⟨List.replicate ops.size false⟩ []with
    | none=>rfl
    | some p=>simp only [aG4]
  | some l=>
   simp only;cases h:QC l with
   | nil=>exact Cw E ops l A S k
   | cons d ls=>simp only [Cw]
 | false=>exact aMb E ops _ A S k
structure tD where
 loop:Nat->List Nat×List Nat×List Nat
 join:Nat->Option (List Nat)
def sA:Code->Option Nat
 | .region i _ _=>some i
 | .seq a b=>match sA a with | some i=>some i | none=>sA b
 | .cond _ a b=>match sA a with | some i=>some i | none=>sA b
 | .block _ a=>sA a
 | .loop a=>sA a
 | .scope a=>sA a
 | .rangeFunc _ _ a b=>match sA a with | some i=>some i | none=>sA b
 | _=>none
def zV (tb:tD) (a:Code):List Nat:=match sA a with | some i=>(tb.loop i).1 | none=>[]
def Fo (tb:tD) (a:Code) (e:zH):List Nat:=match sA a with
 | some i=>match e with | .ret=>(tb.loop i).2.2 | _=>(tb.loop i).2.1
 | none=>[]
def IY (tb:tD) (b:Code):Option (List Nat):=match sA b with | some i=>tb.join i | none=>none
def EB (l:List Nat) (A:bA) (k:List Value->Bool):Bool:=
 iD (β:=(List Value->Bool)->Bool) (fun k=>k []) (fun i _ ih k=>YU A.tmps i fun v=>ih fun vs=>k (v::vs)) l k
def LN (l:List Nat) (vs:List Value) (nt g:Nat) (marks:List Nat) (k:bA->Bool):Bool:=
 iD (β:=List Value->Tm->Bool) (fun _ T=>k ⟨T,marks,g⟩) (fun i _ ih vs T=>match vs with | v::vs=>uU v T i fun T=>ih vs T | []=>false) l vs ⟨.leaf,nt⟩
abbrev LpT:=Env->Option Nat->List Value->Nat->List Nat->St->(zH->List Value->Nat->List Nat->St->Bool)->Bool
section
variable (P:Program) (tb:tD)
def Zx (a:Code) (ih:List Value->Nat->List Nat->St->Bool) (K:zH->List Value->Nat->List Nat->St->Bool):Cl:=fun e A S=>match e with
 | .normal=>EB (zV tb a) A fun vs=>ih vs A.tmps.n A.marks S
 | e=>EB (Fo tb a e) A fun vs=>K e vs A.tmps.n A.marks S
def Fp (a:Code) (body:CdW) (E:Env) (r:Option Nat) (K:zH->List Value->Nat->List Nat->St->Bool):Nat->List Value->Nat->List Nat->St->Bool:=
 NA (β:=List Value->Nat->List Nat->St->Bool) (fun _ _ _ _=>false) (fun _ ih vs n marks S=>LN (zV tb a) vs n P.globals.size marks fun A=>body.f E r A S (Zx tb a ih K))
def aMf (a:Code) (body:CdW):LpT:=fun E r vs n marks S K=>Fp P tb a body E r K E.most vs n marks S
def aOR (a:Code) (K:Cl):zH->List Value->Nat->List Nat->St->Bool:=fun e vs n marks S=>LN (Fo tb a e) vs n P.globals.size marks fun A=>K e A S
def aQS (a:Code) (lp:LpT):CdW:=⟨fun E r A S K=>EB (zV tb a) A fun vs=>lp E r vs A.tmps.n A.marks S (aOR P tb a K)⟩
def aFp (l:List Nat) (b:CdW) (E:Env) (r:Option Nat) (K:Cl) (vs:List Value) (n:Nat) (marks:List Nat) (S:St):Bool:=pW E.most false fun _=>LN l vs n P.globals.size marks fun A=>b.f E r A S K
def aBX (j:Option (List Nat)) (b:CdW) (E:Env) (r:Option Nat) (K:Cl):Cl:=fun e A S=>match e with
 | .normal=>match j with
  | none=>b.f E r A S K
  | some l=>EB l A fun vs=>aFp P l b E r K vs A.tmps.n A.marks S
 | e=>K e A S
def aDO (id:Nat) (K:Cl):Cl:=fun e A S=>match e with
 | .exit i=>match Nat.beq i id with | true=>K .normal A S | false=>K (.exit i) A S
 | e=>K e A S
def qA (lp:Code->LpT):Code->CdW
 | .skip=>⟨fun _ _ A S K=>K .normal A S⟩
 | .region _ ops draw=>⟨fun E _ A S K=>(aG5 P ops draw).f E A S fun A S=>K .normal A S⟩
 | .seq a b=>⟨fun E r A S K=>(qA lp a).f E r A S (aBX P (IY tb b) (qA lp b) E r K)⟩
 | .cond c a b=>⟨fun E r A S K=>(AY c).f A fun v=>match v with | .bool v=>gE v ((qA lp a).f E r A S K) ((qA lp b).f E r A S K) | _=>false⟩
 | .block id a=>⟨fun E r A S K=>(qA lp a).f E r A S (aDO id K)⟩
 | .loop a=>aQS P tb a (lp a)
 | .scope a=>qA lp a
 | .rangeFunc f ps as bo=>⟨fun E r A S K=>Cm E r f ps as bo A S K⟩
 | .exit id=>⟨fun _ _ A S K=>K (.exit id) A S⟩
 | .label _=>⟨fun _ _ A S K=>K .normal A S⟩
 | .ret=>⟨fun _ _ A S K=>K .ret A S⟩
 | _=>⟨fun _ _ _ _ _=>false⟩
def lpX:Nat->Code->LpT
 | 0=>fun _ _ _ _ _ _ _ _=>false
 | n+1=>fun a=>aMf P tb a (qA P tb (lpX n) a)
end
end Go.Am
namespace Go.Am
open Go.RowKit Go.MapKept
section
variable{P:Program}{w0:World}{U:Rn}{S:St}{w:World}
theorem aDP{A:bA}:∀{l:List Nat} {k:List Value->Bool},EB l A k=true->∃vs,k vs=true/\vs.length=l.length/\∀(j i:Nat) (v:Value),l[j]? =some i->vs[j]? =some v->A.tmps.t.get i=some v:=by
 intro l;induction l with
 | nil=>intro k hk;exact⟨[],hk,rfl,fun j i v h=>by simp at h⟩
 | cons x l ih=>
  intro k hk;obtain⟨v,hv,hk⟩:=HU (show YU A.tmps x (fun v=>EB l A fun vs=>k (v::vs))=true from hk);obtain⟨vs,h1,h2,h3⟩:=ih hk;refine⟨v::vs,h1,by simp [h2],fun j i u hi hu=>?_⟩;cases j with
  | zero=>simp at hi hu;subst hi hu;exact hv
  | succ j=>simp at hi hu;exact h3 j i u hi hu
def aFq (U:Rn) (l:List Nat) (vs:List Value) (a:Act):Prop:=vs.length=l.length/\∀(j i:Nat) (v:Value),l[j]? =some i->vs[j]? =some v->∃v',a.tmps.toList[i]? =some v'/\VR U v v'
theorem aBY{A:bA}{a:Act} (hA:BR P U A a){l:List Nat}{k:List Value->Bool} (hk:EB l A k=true):∃vs,k vs=true/\aFq U l vs a:=by
 obtain⟨vs,h1,h2,h3⟩:=aDP hk;exact⟨vs,h1,h2,fun j i v hi hv=>hA.tmps.get (h3 j i v hi hv)⟩
theorem Zy{a:Act}{marks:List Nat}{k:bA->Bool}{nt:Nat}:∀{l:List Nat} {vs:List Value} {T:Tm},
 (iD (β:=List Value->Tm->Bool) (fun _ T=>k ⟨T,marks,P.globals.size⟩) (fun i _ ih vs T=>match vs with | v::vs=>uU v T i fun T=>ih vs T | []=>false) l vs T)=true->
 aFq U l vs a->T.n=nt->(∀i v,T.t.get i=some v->∃v',a.tmps.toList[i]? =some v'/\VR U v v')->∃T',k ⟨T',marks,P.globals.size⟩=true/\T'.n=nt/\∀i v,T'.t.get i=some v->∃v',a.tmps.toList[i]? =some v'/\VR U v v':=by
 intro l;induction l with
 | nil=>intro vs T hk _ hn hT;exact⟨T,hk,hn,hT⟩
 | cons x l ih=>
  intro vs T hk hv hn hT;rw [bU]at hk;cases vs with
  | nil=>have:=hv.1;simp at this
  | cons v vs=>
   obtain⟨hx,hk⟩:=GC hk;refine ih hk ⟨by have:=hv.1;simpa using this,fun j i u hi hu=>hv.2 (j+1) i u (by simpa using hi) (by simpa using hu)⟩ hn fun i u hu=>?_;have hu:(T.t.put x v).get i=some u:=hu;rw [AX]at hu;split at hu
   ·rename_i e
    injection hu with hu;subst hu e;exact hv.2 0 i v rfl rfl
   ·exact hT i u hu
theorem aBZ{a:Act}{marks:List Nat}{k:bA->Bool}{nt:Nat}{l:List Nat}{vs:List Value} (hk:LN l vs nt P.globals.size marks k=true) (hv:aFq U l vs a) (hn:nt=a.tmps.size) (hm:Yq U marks a.defers) (hr:Rel P w0 U S w):
 ∃A,k A=true/\SR P w0 U A a S w/\A.marks=marks:=by
 obtain⟨T',h1,h2,h3⟩:=Zy hk hv rfl (fun i v h=>by cases h);exact⟨_,h1,⟨⟨⟨by rw [h2,hn];simp,h3⟩,rfl⟩,hr,hm⟩,rfl⟩
end
end Go.Am
namespace Go.Am
open Go.RowKit Go.MapKept
section
variable{E:Env}{w0:World}
structure AtX (P:Program) (w0:World) (U:Rn) (l:List Nat) (vs:List Value) (n:Nat) (marks:List Nat) (a:Act) (S:St) (w:World):Prop where
 aSL:aFq U l vs a
 size:n=a.tmps.size
 marks:Yq U marks a.defers
 rel:Rel P w0 U S w
def aSM (P:Program) (w0:World) (tb:tD) (b:Code) (U:Rn) (w:World) (K:zH->List Value->Nat->List Nat->St->Bool) (e:Exit) (a':Act) (w':World):Prop:=
 ∃U' ae vs n marks S',e=exR ae/\K ae vs n marks S'=true/\AtX P w0 U' (Fo tb b ae) vs n marks a' S' w'/\xZ U w U' w'
def aQT (E:Env) (w0:World) (tb:tD) (lp:Code->LpT):Prop:=∀(b:Code) {U:Rn} {vs:List Value} {n:Nat} {marks:List Nat} {a:Act} {S:St} {w:World} {K:zH->List Value->Nat->List Nat->St->Bool} {r ro:Option Nat} {Q:Exit->Act->World->Prop},
 lp b E r vs n marks S K=true->AtX E.P w0 U (zV tb b) vs n marks a S w->RoR U r ro->(∀e a' w',aSM E.P w0 tb b U w K e a' w'->Q e a' w')->(Code.loop b).wpIn (VD ro) 0 E.P Q a w
theorem AtX.canon{P:Program}{U:Rn}{l:List Nat}{vs:List Value}{n:Nat}{marks:List Nat}{a:Act}{S:St}{w:World}{k:bA->Bool} (h:AtX P w0 U l vs n marks a S w) (hk:LN l vs n P.globals.size marks k=true):∃A,k A=true/\SR P w0 U A a S w:=by
 obtain⟨A,h1,h2,_⟩:=aBZ hk h.aSL h.size h.marks h.rel;exact⟨A,h1,h2⟩
theorem SR.at{P:Program}{U:Rn}{A:bA}{a:Act}{S:St}{w:World}{l:List Nat}{k:List Value->Bool} (h:SR P w0 U A a S w) (hk:EB l A k=true):∃vs,k vs=true/\AtX P w0 U l vs A.tmps.n A.marks a S w:=by
 obtain⟨vs,h1,h2⟩:=aBY h.act hk;exact⟨vs,h1,h2,by rw [h.act.tmps.1];simp,h.marks,h.rel⟩
theorem Fq (hc:lG E.P w0 E.call) (hr:oG E.P w0 E.round) (hm:E.P.follows .mixedOrders=true){tb:tD}{lp:Code->LpT} (hlp:aQT E w0 tb lp):∀(c:Code) {U:Rn} {A:bA} {a:Act} {S:St} {w:World} {K:Cl} {r ro:Option Nat} {Q:Exit->Act->World->Prop},
 (qA E.P tb lp c).f E r A S K=true->SR E.P w0 U A a S w->RoR U r ro->(∀e a' w',Arr E.P w0 U w K e a' w'->Q e a' w')->c.wpIn (VD ro) 0 E.P Q a w:=by
 intro c;induction c with
 | skip=>intro U A a S w K r ro Q hk hs uV hQ;exact wpIn_skip (hQ _ _ _ ⟨U,.normal,A,S,rfl,hk,hs,.refl U w⟩)
 | label l=>intro U A a S w K r ro Q hk hs uV hQ;exact wpIn_label (hQ _ _ _ ⟨U,.normal,A,S,rfl,hk,hs,.refl U w⟩)
 | ret=>intro U A a S w K r ro Q hk hs uV hQ;exact wpIn_ret (hQ _ _ _ ⟨U,.ret,A,S,rfl,hk,hs,.refl U w⟩)
 | exit id=>intro U A a S w K r ro Q hk hs uV hQ;exact wpIn_exit (hQ _ _ _ ⟨U,.exit id,A,S,rfl,hk,hs,.refl U w⟩)
 | goto l=>intro U A a S w K r ro Q hk hs uV hQ;cases hk
 | refuse l=>intro U A a S w K r ro Q hk hs uV hQ;cases hk
 | region id ops draw=>
  intro U A a S w K r ro Q hk hs uV hQ;have hk:(aG5 E.P ops draw).f E A S (fun A S=>K .normal A S)=true:=hk;rw [aFo]at hk;exact Em hc hr (aOK hc hr hm) (.region id ops draw) hk hs uV hQ
 | seq x y ihx ihy=>
  intro U A a S w K r ro Q hk hs uV hQ;have hk:(qA E.P tb lp x).f E r A S (aBX E.P (IY tb y) (qA E.P tb lp y) E r K)=true:=hk;refine wpIn_seq (ihx hk hs uV ?_)
  rintro e a' w' ⟨U',ae,A',S',rfl,h1,h2,h3⟩
  cases ae with
  | normal=>
   unfold aBX at h1;cases hj:IY tb y with
   | none=>
    rw [hj]at h1;exact ihy h1 h2 (uV.mono h3.ext) fun e a w h=>hQ e a w (h.trans h3)
   | some l=>
    rw [hj]at h1;have h1:EB l A' (fun vs=>aFp E.P l (qA E.P tb lp y) E r K vs A'.tmps.n A'.marks S')=true:=h1;obtain⟨vs,g1,g2⟩:=h2.at h1
    have g1:LN l vs A'.tmps.n E.P.globals.size A'.marks (fun A=>(qA E.P tb lp y).f E r A S' K)=true:=by
     unfold aFp at g1;cases hm:E.most with
     | zero=>rw [hm]at g1;cases g1
     | succ m=>rw [hm]at g1;exact g1
    obtain⟨A2,g3,g4⟩:=g2.canon g1;exact ihy g3 g4 (uV.mono h3.ext) fun e a w h=>hQ e a w (h.trans h3)
  | exit id=>exact hQ _ _ _ ⟨U',.exit id,A',S',rfl,h1,h2,h3⟩
  | ret=>exact hQ _ _ _ ⟨U',.ret,A',S',rfl,h1,h2,h3⟩
 | cond c x y ihx ihy=>
  intro U A a S w K r ro Q hk hs uV hQ;have hk:(AY c).f A (fun v=>match v with | .bool b=>gE b ((qA E.P tb lp x).f E r A S K) ((qA E.P tb lp y).f E r A S K) | _=>false)=true:=hk;rw [lH]at hk;obtain⟨v,hk,hv⟩:=aT hs.rel hs.act hk;split at hk
  ·rename_i b
   have e:=hv.of_flat rfl;cases b with
   | true=>exact wpIn_cond_true e (ihx hk hs uV hQ)
   | false=>exact wpIn_cond_false e (ihy hk hs uV hQ)
  ·cases hk
 | block id x ih=>
  intro U A a S w K r ro Q hk hs uV hQ;have hk:(qA E.P tb lp x).f E r A S (aDO id K)=true:=hk;refine wpIn_block (ih hk hs uV ?_)
  rintro e a' w' ⟨U',ae,A',S',rfl,h1,h2,h3⟩
  cases ae with
  | normal=>exact hQ _ _ _ ⟨U',.normal,A',S',rfl,h1,h2,h3⟩
  | ret=>exact hQ _ _ _ ⟨U',.ret,A',S',rfl,h1,h2,h3⟩
  | exit i=>
   unfold aDO at h1;simp only at h1;show Exit.inBlock id Q (.exit i) a' w';split at h1
   ·rename_i hi
    have hi:=dI hi;subst hi;simp only [Exit.inBlock,if_true];exact hQ _ _ _ ⟨U',.normal,A',S',rfl,h1,h2,h3⟩
   ·rename_i hi
    have hi:=VT hi;simp only [Exit.inBlock,hi,if_false];exact hQ _ _ _ ⟨U',.exit i,A',S',rfl,h1,h2,h3⟩
 | scope x ih=>
  intro U A a S w K r ro Q hk hs uV hQ;refine Pp (ih (show(qA E.P tb lp x).f E r A S K=true from hk) hs uV ?_)
  rintro e a' w' ⟨U',ae,A',S',rfl,h1,h2,h3⟩
  cases ae with
  | normal=>exact hQ _ _ _ ⟨U',.normal,A',S',rfl,h1,h2,h3⟩
  | exit id=>exact hQ _ _ _ ⟨U',.exit id,A',S',rfl,h1,h2,h3⟩
  | ret=>exact hQ _ _ _ ⟨U',.ret,A',S',rfl,h1,h2,h3⟩
 | rangeFunc f ps as bo _ _=>
  intro U A a S w K r ro Q hk hs uV hQ;exact Vu hc hk hs uV hQ
 | loop x ih=>
  intro U A a S w K r ro Q hk hs uV hQ;have hk:EB (zV tb x) A (fun vs=>lp x E r vs A.tmps.n A.marks S (aOR E.P tb x K))=true:=hk;obtain⟨vs,hk,RM⟩:=hs.at hk;refine hlp x hk RM uV ?_
  rintro e a' w' ⟨U',ae,vs',n',aSN,S',rfl,h1,h2,h3⟩
  obtain⟨A',h1,h4⟩:=h2.canon h1;exact hQ _ _ _ ⟨U',ae,A',S',rfl,h1,h4,h3⟩
theorem aDQ (hc:lG E.P w0 E.call) (hr:oG E.P w0 E.round) (hm:E.P.follows .mixedOrders=true) (tb:tD):∀m,aQT E w0 tb (lpX E.P tb m):=by
 intro m;induction m with
 | zero=>intro b U vs n marks a S w K r ro Q hk;cases hk
 | succ m ih=>
  intro b U vs n marks a S w K r ro Q hk RM uV hQ
  let F:Nat->List Value->Nat->List Nat->St->Bool:=Fp E.P tb b (qA E.P tb (lpX E.P tb m) b) E r K
  have hk:F E.most vs n marks S=true:=hk
  let I:Nat->Act->World->Prop:=fun j a' w'=>∃U' vs n marks S',F j vs n marks S'=true/\AtX E.P w0 U' (zV tb b) vs n marks a' S' w'/\xZ U w U' w'
  refine wpIn_loop (I:=fun a w=>∃j,I j a w) (μ:=fun a w=>least fun j=>I j a w) ⟨E.most,U,vs,n,marks,S,hk,RM,.refl U w⟩ ?_
  rintro a1 w1 ⟨j0,hj0⟩
  obtain⟨hj,_⟩:=SN (p:=fun j=>I j a1 w1) hj0;generalize aSh:least (fun j=>I j a1 w1)=j at hj;obtain⟨U1,vs1,n1,aOS,S1,h1,h2,h3⟩:=hj;cases j with
  | zero=>cases h1
  | succ j=>
   have h1:LN (zV tb b) vs1 n1 E.P.globals.size aOS (fun A=>(qA E.P tb (lpX E.P tb m) b).f E r A S1 (Zx tb b (F j) K))=true:=h1;obtain⟨A1,h1,xO⟩:=h2.canon h1;refine Fq hc hr hm ih b h1 xO (uV.mono h3.ext) ?_
   rintro e a' w' ⟨U',ae,A',S',rfl,g1,g2,g3⟩
   cases ae with
   | normal=>
    obtain⟨vs',g1,aI3⟩:=g2.at g1;have hI:I j a' w':=⟨U',vs',_,_,S',g1,aI3,h3.trans g3⟩;refine⟨⟨j,hI⟩,?_⟩;have:=(SN (p:=fun j=>I j a' w') hI).2;exact Nat.lt_succ_of_le this
   | exit id=>
    obtain⟨vs',g1,aI3⟩:=g2.at g1;exact hQ _ _ _ ⟨U',.exit id,vs',_,_,S',rfl,g1,aI3,h3.trans g3⟩
   | ret=>
    obtain⟨vs',g1,aI3⟩:=g2.at g1;exact hQ _ _ _ ⟨U',.ret,vs',_,_,S',rfl,g1,aI3,h3.trans g3⟩
end
section
variable (P:Program) (tb:FuncId->tD)
def aSO (fn:Func) (K:VK):Cl:=fun e A S=>match e with
 | .exit _=>false
 | _=>PA A.marks S fun S=>tV P fn.results.toList A S fun vs=>match vs with | [v]=>K v S | vs=>K (.tuple ⟨vs⟩) S
def FH:Nat:=5
def fnX (f:FuncId) (E:Env) (args:List Value) (S:St) (K:VK):Bool:=
 match P.funcs[f]? with
 | some fn=>match fn.body with
  | some c=>bV fn.ntmps fun n=>aEY n args fun ts=>(qA P (tb f) (lpX P (tb f) FH) c).f E none ⟨ts,[],P.globals.size⟩ S (aSO P fn K)
  | none=>false
 | none=>false
def Iw (n:Nat) (bo:Code):Nat:=match sA bo with | some i=>1000000+n*10000+i | none=>1000000
def Au (n:Nat) (bo:Code):List Nat:=((tb (Iw n bo)).loop 1000000).1
def aMg (l:Nat) (K:VK):Cl:=fun e _ S=>rV S.h l fun o=>match o with
 | .loop tm ps as bo _ _=>match e with
  | .normal=>tK S l (.loop tm ps as bo .ready none) fun S=>K (.bool true) S
  | .ret=>tK S l (.loop tm ps as bo .done (some .ret)) fun S=>K (.bool false) S
  | .exit id=>tK S l (.loop tm ps as bo .done (some (.exit id))) fun S=>K (.bool false) S
 | _=>false
def aI4 (n l:Nat) (bo:Code) (E:Env) (K:VK):Cl:=fun e A S=>match e with
 | .normal=>rV S.h l fun o=>match o with
  | .loop tm ps as bo' .ready pe=>tK S l (.loop tm ps as bo' .busy pe) fun S=>(qA P (tb (Iw n bo)) (lpX P (tb (Iw n bo)) FH) bo).f E (some l) A S (aMg l K)
  | _=>false
 | _=>false
def Qp (E:Env) (l:Nat) (args:List Value) (S:St) (K:VK):Bool:=
 rV S.h l fun o=>match o with
  | .loop tmps ps as bo _ _=>EB (Au tb tmps.n bo) ⟨tmps,[],P.globals.size⟩ fun vs=>LN (Au tb tmps.n bo) vs tmps.n P.globals.size [] fun A=>aBn ps args A.tmps fun ts=>
   (qA P (tb (Iw tmps.n bo)) (lpX P (tb (Iw tmps.n bo)) FH) as).f E (some l) ⟨ts,[],P.globals.size⟩ S (aI4 P tb tmps.n l bo E K)
  | _=>false
def aG9 (ov:FuncId->Option (List Value->St->VK->Bool)) (most:Nat) (n:Nat):Env:=
 NA (β:=Env) {P,ov,call:=fun _ _ _ _=>false,round:=fun _ _ _ _=>false,most}
  (fun _ E=>{P,ov,call:=fun f args S K=>match ov f with | some g=>g args S K | none=>fnX P tb f E args S K,round:=fun l args S K=>Qp P tb E l args S K,most}) n
inductive Dir where
 | l
 | r
 | d
variable (T:tD) (E:Env)
end
section
variable{P:Program}{tb:FuncId->tD}{w0:World}
theorem aHa{E:Env} (hP:E.P=P) (hc:lG P w0 E.call) (hr:oG P w0 E.round) (hm:P.follows .mixedOrders=true) (LD:∀(f:FuncId) (fn:Func),P.funcs[f]? =some fn->fn.name≠ "runtime.NumGoroutine"):lG P w0 (fun f args S K=>fnX P tb f E args S K):=by
 subst hP;intro f args S K U w eX hk h ha;dsimp only at hk;unfold fnX at hk;split at hk
 ·rename_i fn hf
  split at hk
  ·rename_i c hb
   refine⟨fun w=>?_,?_⟩
   ·have hn:=LD f fn hf
    have hp:(program).run E.P w= .ok E.P w:=rfl;simp [callFunc,hp,hf,hn,hb]
   ·rw [bH]at hk
    obtain⟨ts,hk,Pf⟩:=Ke hk ha;refine callsIn_of_wp_marks hf hb trivial (Fq hc hr hm (aDQ hc hr hm (tb f) FH) c (ro:=none) (r:=none) hk ⟨⟨Pf,rfl⟩,h,⟨rfl,by simp⟩⟩ (.inl ⟨rfl,rfl⟩) ?_)
    ·rintro e a' w' ⟨U',ae,A',S',rfl,g1,g2,g3⟩
     have fin:PA A'.marks S' (fun S=>tV E.P fn.results.toList A' S fun vs=>match vs with | [v]=>K v S | vs=>K (.tuple ⟨vs⟩) S)=true->LeavesInM (VD none) 0 E.P fn a'.tmps (aGG E.P w0 U w K) a'.defers .returning w':=by
      intro hk;refine Eo hk g2.rel g2.marks fun S2 w2 hk hrel WR=>?_;obtain⟨vs,vs',hk,JG,fU⟩:=WV hrel g2.act hk
      have aOj:(fn.results.mapM (fun | .tmp t=>pure (a'.tmps.getD t undef) | .cell x t=>do loadVar t (<-asAddr (a'.tmps.getD x undef)):ResultVar->Sem Value)).run E.P w2= .ok ⟨vs'⟩ w2:=by
       rw [<-aDb (xs:=fn.results),List.mapM_toArray];rw [Sem.run_map];exact(kB (fun r=>Result.andThen r _) fU).trans rfl
      refine⟨(if h:(⟨vs'⟩:Array Value).size=1 then(⟨vs'⟩:Array Value)[0]else .tuple ⟨vs'⟩),?_,?_⟩
      ·unfold results
       rw [cR];exact(kB (fun r=>Result.andThen r _) aOj).trans rfl
      ·refine⟨_,rfl,?_⟩
       match vs,vs',hk,JG with
       | [v],[v'],hk,JG=>exact⟨U',v,S2,hk,JG.head,hrel,g3.trans WR⟩
       | [],[],hk,JG=>exact⟨U',_,S2,hk,.pZ (.nil _),hrel,g3.trans WR⟩
       | a::b::l,a2::b2::l2,hk,JG=>
        have:¬(⟨a2::b2::l2⟩:Array Value).size=1:=by simp
        rw [dif_neg this];exact⟨U',_,S2,hk,.pZ JG,hrel,g3.trans WR⟩
       | [],_::_,_,JG=>have:=JG.1;simp at this
       | _::_,[],_,JG=>have:=JG.1;simp at this
       | [_],_::_::_,_,JG=>have:=JG.1;simp at this
       | _::_::_,[_],_,JG=>have:=JG.1;simp at this
     cases ae with
     | normal=>exact fin g1
     | ret=>exact fin g1
     | exit id=>cases g1
  ·cases hk
 ·cases hk
theorem Zz{E:Env} (hP:E.P=P) (hc:lG P w0 E.call) (hr:oG P w0 E.round) (hm:P.follows .mixedOrders=true):oG P w0 (Qp P tb E):=by
 subst hP;intro l args S K U w eX L hk h ha hL;unfold Qp at hk;obtain⟨o,ho,hk⟩:=pI hk;split at hk
 ·rename_i tmps params assign body st pe
  obtain⟨r,hb,hrr,hst,hpe,WG,has,hbo,htm⟩:=yC h ho hL;have aSP:SR E.P w0 U ⟨tmps,[],E.P.globals.size⟩ {tmps:=r.tmps,defers:=[]} S w:=⟨⟨htm,rfl⟩,h,⟨rfl,by simp⟩⟩;obtain⟨vs,hk,RM⟩:=aSP.at hk;obtain⟨A0,hk,hA0⟩:=RM.canon hk;obtain⟨ts,hk,hlen,Pf⟩:=Pr hk ha hA0.act.tmps
  have aDo:(Instr.yield L.b ⟨eX⟩).run E.P w= .ok (.round L.b r.fn ((r.params.zip ⟨eX⟩).foldl (fun tmps (x:Tmp×Value)=>tmps.setIfInBounds x.1 x.2) r.tmps) r.assign r.body) w:=by
   have hsz:(⟨eX⟩:Array Value).size=r.params.size:=by
    show eX.length=_;rw [hlen,<-WG];rfl
   have oX:¬(⟨eX⟩:Array Value).size≠r.params.size:=fun hh=>hh hsz;simp only [Instr.yield,cR,run_getLoop hrr,eL,aG oX,kR]
  refine⟨_,_,_,_,aDo,?_⟩;refine roundIn_of_wpIn trivial ?_;rw [has]
  have aOk:((r.params.zip ⟨eX⟩).foldl (fun tmps (x:Tmp×Value)=>tmps.setIfInBounds x.1 x.2) r.tmps)=(params.zip eX).foldl (fun tmps (x:Tmp×Value)=>tmps.setIfInBounds x.1 x.2) r.tmps:=by
   rw [<-aDe]
   congr 1
   rw [Array.toList_zip,WG]
  rw [aOk];refine Fq hc hr hm (aDQ hc hr hm _ FH) assign (ro:=some L.b) hk ⟨⟨Pf,rfl⟩,h,⟨rfl,by simp⟩⟩ (.inr ⟨l,L,rfl,hL,rfl⟩) ?_
  rintro e a' w' ⟨U1,ae,A1,S1,rfl,g1,g2,g3⟩
  unfold aI4 at g1;cases ae with
  | exit id=>cases g1
  | ret=>cases g1
  | normal=>
   simp only at g1;obtain⟨o1,ho1,g1⟩:=pI g1;have hL1:=g3.ext _ _ hL;split at g1
   ·rename_i tm ps as bo pe1
    obtain⟨r1,Dv,aIn,aOl,aOm,aOn,aOo,aOp,aOq⟩:=yC g2.rel ho1 hL1;obtain⟨q1,q2,q3⟩:=WU g2.rel ho1 hL1 Dv aIn aOn aOo aOp aOq .busy pe1;rw [iB]at g1;refine⟨w'.putObj L.b (.loop {r1 with state:= .busy,pending:=pe1}),?_,?_⟩
    ·have q3':(setObj L.b (.loop {r1 with state:= .busy})).run E.P w'= .ok () (w'.putObj L.b (.loop {r1 with state:= .busy,pending:=pe1})):=by
      rw [<-aOm]at q3 ⊢;exact q3
     simp only [Instr.beginRound,cR,run_getLoop aIn,eL,q3',aOl,kR]
    ·rw [hbo]
     refine Fq hc hr hm (aDQ hc hr hm _ FH) body (ro:=some L.b) g1 ⟨g2.act,q1,g2.marks⟩ (.inr ⟨l,L,rfl,hL1,rfl⟩) ?_
     rintro e2 a2 w2 ⟨U2,ae2,A2,S2,rfl,k1,k2,k3⟩
     unfold aMg at k1;obtain⟨o2,BU,k1⟩:=pI k1;have hL2:=k3.ext _ _ hL1;split at k1
     ·rename_i tm2 ps2 as2 bo2 st2 pe2
      obtain⟨r2,NN,aIo,aSi,aSj,aOr,aOs,aOt,aOu⟩:=yC k2.rel BU hL2
      have fin:∀(Mz:LoopState) (jump:Option Code) (bv:Bool),K (.bool bv) (S2.set l (.loop tm2 ps2 as2 bo2 Mz jump))=true->bv=jump.isNone->Mz=(if jump.isNone then .ready else .done)->
       ∃v w',(Instr.endRound L.b jump).run E.P w2= .ok v w'/\aGG E.P w0 U w K (.returned v) w':=by
       intro Mz jump bv hK hbv aIp;obtain⟨z1,z2,z3⟩:=WU k2.rel BU hL2 NN aIo aOr aOs aOt aOu Mz jump;refine⟨.bool bv,_,?_,.bool bv,rfl,U2,.bool bv,_,hK,.flat rfl,z1,((g3.trans q2).trans k3).trans z2⟩;rw [aIp]at z3 ⊢;simp only [Instr.endRound,cR,run_getLoop aIo,eL,z3,kR,hbv]
      cases ae2 with
      | normal=>
       simp only [iB]at k1;exact fin .ready none true k1 rfl rfl
      | ret=>
       simp only [iB]at k1;exact fin .done (some .ret) false k1 rfl rfl
      | exit id=>
       simp only [iB]at k1;exact fin .done (some (.exit id)) false k1 rfl rfl
     ·cases k1
   ·cases g1
 ·cases hk
theorem aOT (P:Program) (tb:FuncId->tD) (ov:FuncId->Option (List Value->St->VK->Bool)) (most n:Nat):(aG9 P tb ov most n).P=P:=by cases n<;>rfl
theorem aDR{ov:FuncId->Option (List Value->St->VK->Bool)}{most:Nat} (hov:Ep P w0 ov) (LD:∀(f:FuncId) (fn:Func),P.funcs[f]? =some fn->fn.name≠ "runtime.NumGoroutine") (hm:P.follows .mixedOrders=true):∀n,lG P w0 (aG9 P tb ov most n).call/\oG P w0 (aG9 P tb ov most n).round:=by
 intro n;induction n with
 | zero=>
  refine⟨?_,?_⟩
  ·intro f args S K U w eX hk;cases hk
  ·intro l args S K U w eX L hk;cases hk
 | succ n ih=>
  obtain⟨ih1,ih2⟩:=ih;have hP:=aOT P tb ov most n;refine⟨fun f args S K U w eX hk h ha=>?_,?_⟩
  ·have hk:(match(generalizing:=false) ov f with | some g=>g args S K | none=>fnX P tb f (aG9 P tb ov most n) args S K)=true:=hk
   split at hk
   ·rename_i g hg
    exact hov f g hg f args S K U w eX (by simpa using hk) h ha
   ·exact aHa (tb:=tb) hP ih1 ih2 hm LD f args S K U w eX hk h ha
  ·exact Zz hP ih1 ih2 hm
end
end Go.Am
namespace Go.Am
def bZ (l:List (Nat×List Nat×List Nat×List Nat)) (i:Nat):List Nat×List Nat×List Nat:=iD (β:=List Nat×List Nat×List Nat) ([],[],[]) (fun p _ ih=>gE (Nat.beq p.1 i) p.2 ih) l
def cA (l:List (Nat×List Nat)) (i:Nat):Option (List Nat):=iD (β:=Option (List Nat)) none (fun p _ ih=>gE (Nat.beq p.1 i) (some p.2) ih) l
def aQU (l:List (Nat×tD)) (f:FuncId):tD:=iD (β:=tD) ⟨fun _=>([],[],[]),fun _=>none⟩ (fun p _ ih=>gE (Nat.beq p.1 f) p.2 ih) l
section
variable{P:Program}
theorem aDM (off b o:Nat) (K:Value->Bool):aIL off (.pointer (some ⟨b,o,none⟩)) K=K (.pointer (some ⟨b,o+off,none⟩)):=by
 show bV (o+off) (fun o=>K (.pointer (some ⟨b,o,none⟩)))=_;rw [bH]
theorem aOO (i:Nat) (vs:List Value) (K:Value->Bool):aIS i (.tuple ⟨vs⟩) K=ZS vs i fun v=>K v:=rfl
theorem Zu{α:Type}{l:List α}{i:Nat}{v:α} (h:l[i]? =some v) (k:α->Bool):ZS l i k=k v:=by
 induction l generalizing i with
 | nil=>cases h
 | cons a l ih=>
  cases i with
  | zero=>simp at h;subst h;rfl
  | succ i=>exact ih (by simpa using h)
theorem aMd (l:List UInt8) (K:Value->Bool):aBT (.string ⟨⟨l⟩⟩) K=K (.int .i64 (.ofNat l.length)):=oE _ _
theorem aOP (k j:IntKind) (n:Int) (K:Value->Bool):aIR k (.int j n) K=K (.int k (tC k n)):=by
 show DL (tC k n) (fun n=>K (.int k n))=_;rw [oF]
theorem LM{S:St}{i:Nat}{vs:List Value}{e:TypeId}{c:CK} (h:S.obj i=some (.cells vs e c)) (k:List Value->TypeId->CK->Bool):DM S i k=k vs e c:=by
 unfold DM;rw [nH];have h:S.h.get i=some (.cells vs e c):=h;rw [h]
theorem aIY{S:St}{i o:Nat}{vs:List Value}{e:TypeId}{c:CK}{v:Value} (h:S.obj i=some (.cells vs e c)) (hv:vs[o]? =some v) (K:VK):rLd (.pointer (some ⟨i,o,none⟩)) S K=K v S:=by
 show DM S i (fun vs _ _=>ZS vs o fun v=>K v S)=_;rw [LM h,Zu hv]
theorem ZB{S:St}{i o n:Nat}{vs:List Value}{e:TypeId}{c:CK} (h:S.obj i=some (.cells vs e c)) (hn:o+n<=vs.length) (k:List Value->Bool):PS S i o n k=k ((vs.drop o).take n):=by
 show DM S i (fun vs _ _=>NG o vs fun l=>WB n l k)=_;rw [LM h,DR,aK (by omega),HQ,aK (by simp;omega)]
theorem aDN{S:St}{i o n:Nat}{vs:List Value}{e:TypeId}{c:CK} (h:S.obj i=some (.cells vs e c)) (hn:o+n<=vs.length) (K:VK):aIK n (.pointer (some ⟨i,o,none⟩)) S K=K (.agg ⟨(vs.drop o).take n⟩) S:=by
 show PS S i o n (fun l=>K (.agg ⟨l⟩) S)=_;rw [ZB h hn]
theorem aIZ{cs:List Value}{off:Nat}{v:Value} (h:cs[off]? =some v) (K:Value->Bool):Ql off (.agg ⟨cs⟩) K=K v:=by
 show ZS cs off K=_;rw [Zu h]
theorem aG6{cs:List Value}{off n:Nat} (h:off+n<=cs.length) (K:Value->Bool):Fi off n (.agg ⟨cs⟩) K=K (.agg ⟨(cs.drop off).take n⟩):=by
 show NG off cs (fun l=>WB n l fun l=>K (.agg ⟨l⟩))=_;rw [DR,aK (by omega),HQ,aK (by simp;omega)]
theorem aBW{v:Value} (h:lD v=true) (k:List Value->Bool):pX v k=k [v]:=by cases v<;>first | rfl | cases h
theorem aI0 (z:List Value) (t:TypeId) (S:St) (K:VK):Iv z t S K=K (.pointer (some ⟨S.n,0,none⟩)) (S.new (.cells z t .exact)):=by
 unfold Iv aLH
 have:∀(z:List Value) (k:List Value->Bool),iD (β:=(List Value->Bool)->Bool) (fun k=>k []) (fun a _ ih k=>ih fun t=>k (a::t)) z k=k z:=by
  intro z;induction z with
  | nil=>intro k;rfl
  | cons a z ih=>intro k;exact ih _
 rw [this,jH]
theorem aOQ (op:BinOp) (t:TypeId) (k:IntKind) (a b:Int) (K:Value->Bool) (h1:op≠ .shl) (h2:op≠ .shr):aIQ P op t (.int k a) (.int k b) K=RT op k a b K:=by
 rw [SU];have hk:FW k k=true:=by cases k<;>rfl
 cases op<;>first | exact aX rfl h1 | exact aX rfl h2 | (show(match FW k k with | true=>_ | false=>false)=_;rw [hk])
theorem aG7{n:Nat} (h:n<9223372036854775808):tC .i64 (.ofNat n)= .ofNat n:=by
 show(match Nat.blt n 9223372036854775808 with | true=>_ | false=>_)=_;have:Nat.blt n 9223372036854775808=true:=nT h;rw [this]
theorem aMe (b:Bool) (K:Value->Bool):unK .not (.bool b) K=K (.bool (!b)):=by
 show Cf (!b) (fun b=>K (.bool b))=_;rw [pU]
theorem iG{S:St}{o:jD}{i:Nat} (h:i≠S.n):(S.new o).obj i=S.obj i:=by rw [YY,aG h]
theorem vM{S:St}{o:jD}:(S.new o).obj S.n=some o:=by rw [YY,aK rfl]
theorem Zv{S:St}{i:Nat}{o:jD}:(S.set i o).obj i=some o:=by rw [HE,aK rfl]
theorem lO{S:St}{i j:Nat}{o:jD} (h:j≠i):(S.set i o).obj j=S.obj j:=by rw [HE,aG h]
theorem aG8 (j:IntKind) (z:Int):UB (.int j z) (.int j z)=true:=by
 have h1:FW j j=true:=by cases j<;>rfl
 show(FW j j&&eqI z z)=true;rw [h1,RZ];simp
def Zw (l:List UInt8):List Value:=l.map fun b=> .int .u8 (.ofNat b.toNat)
structure Src (S:St) (size:Nat) (x:Value) (n:Nat) (new:List Value):Prop where
 len:∀k,TT x k=k n
 first:∀k,n≠0->OZ S size n x k=k new
 one:∀v∈new,lD v=true
theorem Src.text (S:St) (l:List UInt8):Src S 1 (.string ⟨⟨l⟩⟩) l.length (Zw l):=by
 refine⟨fun k=>oE _ _,fun k h=>?_,fun v hv=>?_⟩
 ·show WB l.length l (fun l=>aH5 l k)=_
  rw [HQ,aK (bO _),Xs,Yi];rfl
 ·obtain⟨b,_,rfl⟩:=kS.1 hv
  rfl
theorem Src.row{S:St}{i o n c size:Nat}{vs:List Value}{e:TypeId}{ck:CK} (h:S.obj i=some (.cells vs e ck)) (hn:o+n*size<=vs.length) (h1:∀v∈(vs.drop o).take (n*size),lD v=true):Src S size (.slice (some ⟨i,o,none⟩) n c) n ((vs.drop o).take (n*size)):=by
 refine⟨fun k=>rfl,fun k hz=>?_,h1⟩;obtain⟨m,rfl⟩:=bG hz;show PS S i o ((m+1)*size) k=_;rw [ZB h hn]
theorem aI1{elem size bytes n:Nat}{S:St}{x:Value}{new:List Value} (hx:Src S size x n new) (hz:n≠0) (hb:(n*bytes<=140737488355328/\n<=140737488355328)) (K:VK):
 aDI P elem size bytes (.slice none 0 0) x S K=K (.slice (some ⟨S.n,0,some 0⟩) n n) (S.new (.cells new elem (.grown []))):=by
 obtain⟨m,rfl⟩:=bG hz;show TT x _=_;rw [hx.len];show OZ S size (m+1) x _=_;rw [hx.first _ hz];simp only [bH,dX];rw [show Dy (m+1) bytes=true from Ot hb];have:Nat.ble (m+1) 0=false:=rfl;simp only [this];show TU elem [] new (m+1) none S K=_;unfold TU;rw [nI];simp only [Bx,jH]
theorem aI2{elem size bytes n m j:Nat}{S:St}{x:Value}{new vs:List Value}{olds:List Nat} (hx:Src S size x n new) (hz:n≠0) (hb:((m+n)*bytes<=140737488355328/\(m+n)<=140737488355328))
 (hj:S.obj j=some (.cells vs elem (.grown olds))) (hv:vs.length=m*size) (hs:cQ P elem=some size) (K:VK):
 aDI P elem size bytes (.slice (some ⟨j,0,some 0⟩) m m) x S K=K (.slice (some ⟨S.n,0,some 0⟩) (m+n) (m+n)) ((S.set j (.cells vs elem .uT)).new (.cells (vs++new) elem (.grown (j::olds)))):=by
 obtain⟨p,rfl⟩:=bG hz;show TT x _=_;rw [hx.len];show OZ S size (p+1) x _=_;rw [hx.first _ hz];simp only [bH];rw [show Dy (m+(p+1)) bytes=true from Ot hb]
 have:Nat.ble (m+(p+1)) m=false:=by
  cases h:Nat.ble (m+(p+1)) m with
  | false=>rfl
  | true=>have:=cG h;omega
 simp only [this];show DM S j _=_;rw [LM hj];simp only [oE,dX,hv,hs];have RX:xU lD new=true:=by rw [nG];exact dL.2 hx.one
 simp only [show Nat.beq (m*size) (m*size)=true from Cb _,show Nat.beq size size=true from Cb _,show Nat.beq elem elem=true from Cb _,RX];rw [ZB hj (by omega)];rw [xS,<-hv,Xs];show TU elem vs new (m+(p+1)) (some (j,vs,elem,olds)) S K=_;unfold TU;rw [nI];simp only [iB,jH];rfl
end
inductive Tag where
 | root (n:Nat)
 | sub (t:Tag) (k:Nat)
 | cut (t:Tag) (o n c:Nat)
inductive Dt where
 | int (k:IntKind) (z:Int)
 | bool (b:Bool)
 | str (l:List UInt8)
 | list (cs:List Dt) (n:Nat)
inductive V where
 | int (k:IntKind) (z:Int)
 | bool (b:Bool)
 | str (l:List UInt8)
 | list (O:Tag) (cs:List Dt) (n:Nat)
 | nU (O:Tag) (cs:List Dt) (o:Nat)
 | nil
 | acc (i n:Nat)
 | wM (i n o:Nat)
 | IN (i n o k c:Nat)
 | emp (i n:Nat)
 | own (i o n c:Nat)
 | ptr (i o:Nat)
 | Ma
 | func (f:FuncId) (a c:List V)
 | yield (l:Nat)
 | LC (s:String) (v:V)
 | iface (t:TypeId) (v:V)
 | Uv
 | Je
 | yZ (i:Nat)
 | Ri
 | agg (cs:List V)
 | tuple (cs:List V)
def T (O:Tag):Dt->V
 | .int k z=> .int k z
 | .bool b=> .bool b
 | .str l=> .str l
 | .list cs n=> .list O cs n
def Tl (O:Tag):Nat->List Dt->List V
 | _,[]=>[]
 | o,d::l=>T (.sub O o) d::Tl O (o+1) l
inductive Ob where
 | row (vs:List V) (t:TypeId)
 | gD (vs:List V) (t:TypeId) (n:Nat)
 | map (es:List (V×V))
 | wS (es:List (V×V)) (bs:List Nat) (ck:Nat)
 | iter (m since:Nat) (seen:List Nat) (last:Nat)
 | loop (ls:List Nat) (vs:List V) (n:Nat) (ps:List Tmp) (as bo:Code) (st:LoopState) (pe:Option Code)
def Rj:Ob->Bool
 | .gD _ _ _=>true
 | _=>false
abbrev Hp:=Nat->Option Ob
def aJ (S:Hp) (i:Nat) (o:Ob):Hp:=fun j=>if j=i then some o else S j
def bP (S' S:Hp):Prop:=∀i o,S' i=some o->S i=some o
abbrev KV:=V->Hp->Prop
def fV:V->Bool
 | .agg _=>false
 | .tuple _=>false
 | _=>true
def ofV:Value->Option V
 | .int k z=>some (.int k z)
 | .bool b=>some (.bool b)
 | .string ⟨⟨l⟩⟩=>some (.str l)
 | .pointer none=>some .Ma
 | .slice none 0 0=>some .nil
 | .nilIface=>some .Uv
 | .nilFunc=>some .Je
 | .map none=>some .Ri
 | _=>none
def LR:List Value->Option (List V)
 | []=>some []
 | v::l=>match ofV v with
  | some x=>match LR l with | some xs=>some (x::xs) | none=>none
  | none=>none
def YA:V:= .tuple []
def Gq{α:Type} (l:List α) (i:Nat) (k:α->Prop):Prop:=match l[i]? with | some a=>k a | none=>False
def YB{α:Type} (l:List α) (o n:Nat) (k:List α->Prop):Prop:=o+n<=l.length/\k ((l.drop o).take n)
def iQ (c:V) (a b:Prop):Prop:=match c with
 | .bool v=>match v with | true=>a | false=>b
 | _=>False
def Wo (c a b:V) (K:V->Prop):Prop:=match c with
 | .bool v=>match v with | true=>K a | false=>K b
 | _=>False
def aU (a:V) (S:Hp) (K:KV):Prop:=match a with
 | .ptr i o=>match S i with
  | some (.row vs _)=>Gq vs o fun v=>K v S
  | _=>False
 | .nU O cs o=>Gq cs o fun d=>K (T (.sub O o) d) S
 | .wM i n o=>match S i with
  | some (.gD vs _ m)=>m=n/\Gq vs o fun v=>K v S
  | _=>False
 | _=>False
def bJ (n:Nat) (a:V) (S:Hp) (K:KV):Prop:=match a with
 | .ptr i o=>match S i with
  | some (.row vs _)=>YB vs o n fun l=>K (.agg l) S
  | _=>False
 | .nU O cs o=>YB cs o n fun l=>K (.agg (Tl O o l)) S
 | .wM i m o=>match S i with
  | some (.gD vs _ m')=>m'=m/\YB vs o n fun l=>K (.agg l) S
  | _=>False
 | _=>False
def wN (v:V) (k:List V->Prop):Prop:=match v with
 | .agg cs=>cs.all fV=true/\k cs
 | .tuple _=>False
 | v=>k [v]
def mB (n:Nat) (a x:V) (S:Hp) (k:Hp->Prop):Prop:=match a with
 | .ptr i o=>match S i with
  | some (.row vs t)=>wN x fun cs=>cs.length=n/\o+n<=vs.length/\k (aJ S i (.row (aY o cs vs) t))
  | _=>False
 | .wM i q o=>match S i with
  | some (.gD vs t m)=>m=q/\wN x fun cs=>cs.length=n/\o+n<=vs.length/\k (aJ S i (.gD (aY o cs vs) t m))
  | _=>False
 | _=>False
def aKa (vs:List V) (t:TypeId) (S:Hp) (K:Nat->Hp->Prop):Prop:=∀i,S i=none->K i (aJ S i (.row vs t))
def sC (z:List Value) (k:List V->Prop):Prop:=match LR z with | some l=>k l | none=>False
def cN (z:List Value) (t:TypeId) (S:Hp) (K:KV):Prop:=sC z fun l=>aKa l t S fun i S=>K (.ptr i 0) S
def iE (t:TypeId) (v:V) (S:Hp) (K:KV):Prop:=wN v fun cs=>aKa cs t S fun i S=>K (.ptr i 0) S
def iN:List (Nat×Nat×V)->List V->(List V->Prop)->Prop
 | [],cs,k=>k cs
 | (o,n,v)::ps,cs,k=>wN v fun new=>new.length=n/\o+n<=cs.length/\iN ps (aY o new cs) k
def cF (zero:List Value) (ps:List (Nat×Nat×V)) (K:V->Prop):Prop:=sC zero fun z=>iN ps z fun cs=>K (.agg cs)
def aP (el:TypeId) (n:Nat) (zero:List Value) (ps:List (Nat×Nat×V)) (S:Hp) (K:KV):Prop:=
 sC zero fun z=>iN ps (List.replicate n z).flatten fun cs=>aKa cs el S fun i S=>K (.own i 0 n n) S
def aS (off:Nat) (x:V) (K:V->Prop):Prop:=match x with
 | .ptr i o=>K (.ptr i (o+off))
 | .nU O cs o=>K (.nU O cs (o+off))
 | .wM i n o=>K (.wM i n (o+off))
 | _=>False
def aEe (off:Nat) (x:V) (K:V->Prop):Prop:=match x with
 | .agg cs=>Gq cs off K
 | _=>False
def aAw (off n:Nat) (x:V) (K:V->Prop):Prop:=match x with
 | .agg cs=>YB cs off n fun l=>K (.agg l)
 | _=>False
def cI (size:Nat) (x ix:V) (K:V->Prop):Prop:=match ix with
 | .int _ (.ofNat i)=>match x with
  | .list O cs n=>i<n/\K (.nU O cs (i*size))
  | .own b o n _=>i<n/\K (.ptr b (o+i*size))
  | .acc b n=>i<n/\K (.wM b n (i*size))
  | .IN b n o m _=>i<m/\K (.wM b n (o+i*size))
  | _=>False
 | _=>False
def aEf (x ix:V) (K:V->Prop):Prop:=match ix with
 | .int _ (.ofNat i)=>match x with
  | .str l=>Gq l i fun b=>K (.int .u8 (.ofNat b.toNat))
  | _=>False
 | _=>False
def uG (i:Nat) (x:V) (K:V->Prop):Prop:=match x with
 | .tuple vs=>Gq vs i K
 | _=>False
def LU (k:IntKind) (x:V) (K:V->Prop):Prop:=match x with
 | .int _ n=>K (.int k (tC k n))
 | _=>False
def bK (x:V) (K:V->Prop):Prop:=match x with
 | .list _ _ n=>K (.int .i64 (.ofNat n))
 | .nil=>K (.int .i64 (.ofNat 0))
 | .acc _ n=>K (.int .i64 (.ofNat n))
 | .own _ _ n _=>K (.int .i64 (.ofNat n))
 | .IN _ _ _ k _=>K (.int .i64 (.ofNat k))
 | .emp _ _=>K (.int .i64 (.ofNat 0))
 | _=>False
def aKb (x:V) (K:V->Prop):Prop:=match x with
 | .str l=>K (.int .i64 (.ofNat l.length))
 | _=>False
def Um (size:Nat) (x:V) (S:Hp) (k:Nat->List V->Prop):Prop:=match x with
 | .nil=>k 0 []
 | .list O cs n=>n*size<=cs.length/\k n (Tl O 0 (cs.take (n*size)))
 | .own i o n _=>match S i with
  | some (.row vs _)=>YB vs o (n*size) fun l=>k n l
  | _=>False
 | .acc i n=>match S i with
  | some (.gD vs _ m)=>m=n/\vs.length=n*size/\k n vs
  | _=>False
 | .IN i n o q _=>match S i with
  | some (.gD vs _ m)=>m=n/\YB vs o (q*size) fun l=>k q l
  | _=>False
 | .emp _ _=>k 0 []
 | .str l=>size=1/\k l.length (l.map fun b=> .int .u8 (.ofNat b.toNat))
 | _=>False
def aNW (el:TypeId) (vs:List V) (n:Nat) (S:Hp) (K:KV):Prop:=∀i,S i=none->K (.acc i n) (aJ S i (.gD vs el n))
def jY (el:TypeId) (size bytes:Nat) (s x:V) (S:Hp) (K:KV):Prop:=Um size x S fun m new=>match m with
 | 0=>(match s with | .nil=>K s S | .acc _ _=>K s S | .own _ _ n c=>n<=c/\K s S | .list _ _ _=>K s S | _=>False)
 | m+1=>new.all fV=true/\match s with
  | .nil=>((m+1)*bytes<=140737488355328/\(m+1)<=140737488355328)/\aNW el new (m+1) S K
  | .acc i n=>match S i with
   | some (.gD vs t n')=>n'=n/\t=el/\vs.length=n*size/\((n+(m+1))*bytes<=140737488355328/\(n+(m+1))<=140737488355328)/\K (.acc i (n+(m+1))) (aJ S i (.gD (vs++new) el (n+(m+1))))
   | _=>False
  | .own i o n c=>match S i with
   | some (.row vs t)=>((n+(m+1))*bytes<=140737488355328/\(n+(m+1))<=140737488355328)/\o+n*size<=vs.length/\
    (n+(m+1)<=c->o+n*size+new.length<=vs.length/\K (.own i o (n+(m+1)) c) (aJ S i (.row (aY (o+n*size) new vs) t)))/\
    (c<n+(m+1)->aNW el ((vs.drop o).take (n*size)++new) (n+(m+1)) S K)
   | _=>False
  | _=>False
def nB (P:Program) (v:V) (K:V->Prop):Prop:=match v with
 | .ptr i o=>K (.ptr i o)
 | .nU O cs o=>K (.nU O cs o)
 | .wM i n o=>K (.wM i n o)
 | .func f a c=>K (.func f a c)
 | .iface t w=>K (.iface t w)
 | .LC s v=>match v with
  | .iface t w=>match KX P t s with
   | some _=>K (.LC s (.iface t w))
   | none=>False
  | _=>False
 | _=>False
abbrev aNX:=FuncId->List V->Hp->KV->Prop
def aRk (P:Program) (call:aNX) (r:V) (m:String) (args:List V) (S:Hp) (K:KV):Prop:=match r with
 | .iface t v=>match KX P t m with
  | some g=>call g (v::args) S K
  | none=>False
 | _=>False
def Be (l:Nat) (S:Hp) (k:Hp->Prop):Prop:=match S l with
 | some (.loop ls vs n ps as bo .ready pe)=>k (aJ S l (.loop ls vs n ps as bo .busy pe))
 | _=>False
def JR (l:Nat) (st:LoopState) (pe:Option Code) (b:Bool) (S:Hp) (K:KV):Prop:=match S l with
 | some (.loop ls vs n ps as bo _ _)=>K (.bool b) (aJ S l (.loop ls vs n ps as bo st pe))
 | _=>False
def Wv (l:Nat) (S:Hp) (k:Option Code->Hp->Prop):Prop:=match S l with
 | some (.loop ls vs n ps as bo st pe)=>match st with
  | .busy=>False
  | _=>k pe (aJ S l (.loop ls vs n ps as bo .exhausted pe))
 | _=>False
def UJ (pe:Option Code) (kn kr:Prop) (ke:Nat->Prop):Prop:=match pe with
 | none=>kn
 | some .ret=>kr
 | some (.exit id)=>ke id
 | _=>False
def SY (l:Nat) (S:Hp) (p:Prop):Prop:=match S l with
 | some (.loop _ _ _ _ _ _ _ _)=>p
 | _=>False
abbrev Bf (i id:Nat) (a b:Prop):Prop:=Bool.rec (motive:=fun _=>Prop) b a (Nat.beq i id)
def Nq:V->Bool
 | .int _ _ | .bool _ | .str _ | .list _ _ _ | .nil | .ptr _ _ | .Ma | .nU _ _ _ | .wM _ _ _ | .acc _ _ | .IN _ _ _ _ _ | .own _ _ _ _ | .yZ _ | .Ri | .Uv | .Je=>true
 | _=>false
def Nr:V->Bool
 | .func _ a c=>a.all Nq&&c.all Nq
 | v=>Nq v
def Ns:V->Bool
 | .agg cs=>cs.all Nr
 | v=>Nr v
def BY:V->Bool
 | .tuple cs=>cs.all Ns
 | v=>Ns v
def aW (v u:V) (k:Prop):Prop:=v=u/\BY v=true/\k
def aKc (w:Bool) (v:V) (k:Bool->Prop):Prop:=match v with
 | .bool b=>match b,w with | true,true=>k true | false,false=>k true | _,_=>k false
 | .tuple []=>k false
 | _=>False
def PF (w:Bool) (v:V) (op:KV->Prop) (S:Hp) (k:KV):Prop:=aKc w v fun b=>match b with | true=>op k | false=>k YA S
def aRl (u:V) (k:Prop):Prop:=match u with | .tuple []=>k | _=>False
def TF (w:Bool) (v u:V) (op:Prop->Prop) (k:Prop):Prop:=aKc w v fun b=>match b with | true=>op k | false=>aRl u k
def UK (most:Nat) (p:Prop):Prop:=Nat.rec (motive:=fun _=>Prop->Prop) (fun x=>x) (fun _ _ x=>x) most p
theorem aF (most:Nat) (p:Prop):UK most p=p:=by cases most<;>rfl
def UD (op:BinOp) (k:IntKind) (x y:Int) (K:V->Prop):Prop:=match op with
 | .add=>K (.int k (tC k (x+y)))
 | .sub=>K (.int k (tC k (x-y)))
 | .mul=>K (.int k (tC k (x*y)))
 | .quo=>y≠0/\K (.int k (tC k (x.tdiv y)))
 | .rem=>y≠0/\K (.int k (x.tmod y))
 | .and=>K (.int k (k.wrap (BitVec.ofInt k.bits x &&& BitVec.ofInt k.bits y).toNat))
 | .or=>K (.int k (k.wrap (BitVec.ofInt k.bits x ||| BitVec.ofInt k.bits y).toNat))
 | .xor=>K (.int k (k.wrap (BitVec.ofInt k.bits x ^^^ BitVec.ofInt k.bits y).toNat))
 | .andNot=>K (.int k (k.wrap (BitVec.ofInt k.bits x &&& ~~~ BitVec.ofInt k.bits y).toNat))
 | .eql=>K (.bool (decide (x=y)))
 | .neq=>K (.bool (!decide (x=y)))
 | .lss=>K (.bool (decide (x<y)))
 | .leq=>K (.bool (decide (x<=y)))
 | .gtr=>K (.bool (decide (y<x)))
 | .geq=>K (.bool (decide (y<=x)))
 | _=>False
def aPy (op:BinOp) (k:IntKind) (x y:Int) (K:V->Prop):Prop:=0<=y/\match op with
 | .shl=>K (.int k (tC k (x*2 ^ (min y.toNat k.bits))))
 | .shr=>K (.int k (x.fdiv (2 ^ (min y.toNat k.bits))))
 | _=>False
def aRm (op:BinOp) (a b:List UInt8) (K:V->Prop):Prop:=match op with
 | .add=>a.length+b.length<9223372036854775808/\K (.str (a++b))
 | .eql=>K (.bool (decide (a=b)))
 | .neq=>K (.bool (!decide (a=b)))
 | .lss=>K (.bool (Op.bytesLess a b))
 | _=>False
def aRn (op:BinOp) (a b:Bool) (K:V->Prop):Prop:=match op with
 | .eql=>K (.bool (decide (a=b)))
 | .neq=>K (.bool (!decide (a=b)))
 | _=>False
def yW:BinOp->Bool
 | .shl | .shr=>true
 | _=>false
def aF2 (P:Program) (t:TypeId):Bool:=match P.underlying t with | some .bool=>true | _=>false
inductive NK where
 | ptr
 | slice
 | map
 | func
 | iface
def aAx:V->Option (NK×Bool)
 | .ptr _ _=>some (.ptr,false)
 | .nU _ _ _=>some (.ptr,false)
 | .wM _ _ _=>some (.ptr,false)
 | .Ma=>some (.ptr,true)
 | .own _ _ _ _=>some (.slice,false)
 | .acc _ _=>some (.slice,false)
 | .IN _ _ _ _ _=>some (.slice,false)
 | .list _ (_::_) _=>some (.slice,false)
 | .nil=>some (.slice,true)
 | .yZ _=>some (.map,false)
 | .Ri=>some (.map,true)
 | .func _ _ _=>some (.func,false)
 | .LC _ _=>some (.func,false)
 | .Je=>some (.func,true)
 | .iface _ _=>some (.iface,false)
 | .Uv=>some (.iface,true)
 | _=>none
def Fw (P:Program) (t:TypeId):Option NK:=match P.underlying t with
 | some (.pointer _)=>some .ptr
 | some (.slice _)=>some .slice
 | some (.map _ _)=>some .map
 | some (.func _ _ _)=>some .func
 | some (.interface _)=>some .iface
 | _=>none
def aEg (P:Program) (op:BinOp) (t:TypeId) (a b:V) (K:V->Prop):Prop:=match a with
 | .list _ [] _=>match b with
  | .nil=>Fw P t=some .slice/\match op with
   | .eql=>K (.bool true)/\K (.bool false)
   | .neq=>K (.bool true)/\K (.bool false)
   | _=>False
  | _=>False
 | _=>False
def aEh (P:Program) (op:BinOp) (t:TypeId) (a b:V) (K:V->Prop):Prop:=match aAx a with
 | some (k,x)=>match aAx b with
  | some (l,y)=>k=l/\Fw P t=some k/\(x=true\/y=true)/\(x=true->y=true->k≠ .iface)/\match op with
   | .eql=>K (.bool (x&&y))
   | .neq=>K (.bool (!(x&&y)))
   | _=>False
  | none=>False
 | none=>aEg P op t a b K
def aH (P:Program) (op:BinOp) (t:TypeId) (a b:V) (K:V->Prop):Prop:=match a with
 | .int j x=>match b with
  | .int k y=>match yW op with
   | true=>aPy op j x y K
   | false=>j=k/\UD op j x y K
  | _=>False
 | .str x=>match b with | .str y=>aRm op x y K | _=>False
 | .bool x=>match b with | .bool y=>aF2 P t=true/\aRn op x y K | _=>False
 | a=>aEh P op t a b K
def Dc (big:Bool) (a b:V) (K:V->Prop):Prop:=match a with
 | .int j x=>match b with
  | .int _ y=>K (.int j (match big with | true=>max x y | false=>min x y))
  | _=>False
 | _=>False
inductive CT where
 | int (k:IntKind)
 | str
 | bool
inductive KSh where
 | one (c:CT)
 | many (l:List CT)
def Jk (P:Program) (t:TypeId):Option CT:=match P.underlying t with
 | some (.int k)=>some (.int k)
 | some .string=>some .str
 | some .bool=>some .bool
 | _=>none
def OD (P:Program):List Field->Option (List CT)
 | []=>some []
 | f::fs=>match Jk P f.type with
  | some c=>match OD P fs with
   | some l=>some (c::l)
   | none=>none
  | none=>none
def Rk (P:Program) (t:TypeId):Option KSh:=match Jk P t with
 | some c=>some (.one c)
 | none=>match RV P t with
  | some fs=>match OD P fs with
   | some l=>some (.many l)
   | none=>none
  | none=>none
def aHo:CT->V->Prop
 | .int k,.int j _=>j=k
 | .str,.str _=>True
 | .bool,.bool _=>True
 | _,_=>False
def Lc:List CT->List V->Prop
 | [],[]=>True
 | c::l,v::vs=>aHo c v/\Lc l vs
 | _,_=>False
def TG:KSh->V->Prop
 | .one c,v=>aHo c v
 | .many l,.agg cs=>Lc l cs
 | _,_=>False
open Classical in
def YC:List (V×V)->V->Option V
 | [],_=>none
 | e::es,a=>if a=e.1 then some e.2 else YC es a
open Classical in
def PG:List (V×V)->V->V->List (V×V)
 | [],a,x=>[(a,x)]
 | e::es,a,x=>if a=e.1 then(a,x)::es else e::PG es a x
def aPz (P:Program) (op:BinOp) (t:TypeId) (a b:V) (K:V->Prop):Prop:=match Rk P t with
 | some (.many l)=>match a with
  | .agg x=>match b with
   | .agg y=>Lc l x/\Lc l y/\match op with
    | .eql=>(x=y->K (.bool true))/\(x≠y->K (.bool false))
    | .neq=>(x=y->K (.bool false))/\(x≠y->K (.bool true))
    | _=>False
   | _=>False
  | _=>False
 | _=>False
def Gr (S:Hp) (K:KV):Prop:=∀i,S i=none->K (.yZ i) (aJ S i (.map []))
def aAy (ok:Bool) (v:V) (is:Bool):V:=match ok with | true=> .tuple [v,.bool is] | false=>v
def Rl (sh:KSh) (z:V) (ok:Bool) (m a:V) (S:Hp) (K:KV):Prop:=match m with
 | .yZ i=>match S i with
  | some (.map es)=>TG sh a/\(∀e∈es,TG sh e.1)/\(∀v,YC es a=some v->K (aAy ok v true) S)/\(YC es a=none->K (aAy ok z false) S)
  | _=>False
 | _=>False
def AC (sh:KSh) (m a x:V) (S:Hp) (k:Hp->Prop):Prop:=match m with
 | .yZ i=>match S i with
  | some (.map es)=>TG sh a/\(∀e∈es,TG sh e.1)/\k (aJ S i (.map (PG es a x)))
  | _=>False
 | _=>False
def Rm (x:V) (S:Hp) (K:KV):Prop:=match x with
 | .yZ i=>match S i with
  | some (.map es)=>K (.int .i64 (.ofNat es.length)) S
  | _=>False
 | _=>False
def Gt (r:V) (S:Hp) (K:KV):Prop:=match r with
 | .int _ _=>Gr S K
 | _=>False
def HK (x:V) (S:Hp) (K:KV):Prop:=match x with
 | .yZ m=>match S m with
  | some (.map es)=>∀bs ck,bs.length=es.length->bs.Pairwise (· < ·)->(∀b∈bs,b<ck)->∀i,aJ S m (.wS es bs ck) i=none->K (.ptr i 0) (aJ (aJ S m (.wS es bs ck)) i (.iter m ck [] ck))
  | _=>False
 | _=>False
def MC (x:V) (S:Hp) (K:KV):Prop:=match x with
 | .ptr i 0=>match S i with
  | some (.iter m since seen last)=>match S m with
   | some (.wS es bs ck)=>(∀b∈bs,b<since)/\since<=last/\
    ((∀b∈bs,b∈seen)->K (.tuple [.bool false]) (aJ S m (.map es)))/\
    ∀(j:Nat) (e:V×V) (b:Nat),es[j]? =some e->bs[j]? =some b->¬b∈seen->K (.tuple [.bool true,e.1,e.2]) (aJ S i (.iter m since (seen++[b]) ck))
   | _=>False
  | _=>False
 | _=>False
def TH (x:V) (S:Hp) (K:KV):Prop:=match x with
 | .ptr i 0=>match S i with
  | some (.iter m _ seen last)=>match S m with
   | some (.wS es bs ck)=>ck=last/\bs.Pairwise (· < ·)/\∃(j:Nat) (e:V×V) (b:Nat),es[j]? =some e/\bs[j]? =some b/\seen.getLast?=some b/\K (.tuple [e.1,e.2]) S
   | _=>False
  | _=>False
 | _=>False
def Ja (d:Nat) (o:Option V) (k:Nat->Prop):Prop:=match o with
 | none=>k d
 | some (.int _ (.ofNat n))=>k n
 | _=>False
def LX (len cap:Nat) (lo hi mx:Option V) (k:Nat->Nat->Nat->Prop):Prop:=Ja cap mx fun m=>Ja len hi fun h=>Ja 0 lo fun l=>l<=h/\h<=m/\m<=cap/\k l h m
def aRo (x:V) (lo hi:Option V) (K:V->Prop):Prop:=match x with
 | .str s=>LX s.length s.length lo hi none fun l h _=>K (.str ((s.take h).drop l))
 | _=>False
def aRp (len size:Nat) (x:V) (lo hi mx:Option V) (K:V->Prop):Prop:=match x with
 | .ptr i o=>LX len len lo hi mx fun l h m=>K (.own i (if m=l then o else o+l*size) (h-l) (m-l))
 | _=>False
def LW (el size:Nat) (x:V) (lo hi mx:Option V) (S:Hp) (K:V->Prop):Prop:=match x with
 | .own i o n c=>LX n c lo hi mx fun l h m=>K (.own i (if m=l then o else o+l*size) (h-l) (m-l))
 | .list O cs n=>match mx with
  | some _=>LX n n lo hi mx fun l h m=>l<m/\h*size<=cs.length/\K (.list (.cut O (l*size) (h-l) (m-l)) ((cs.drop (l*size)).take ((h-l)*size)) (h-l))
  | none=>False
 | .nil=>LX 0 0 lo hi mx fun _ _ _=>K .nil
 | .acc i n=>match mx with
  | none=>match S i with
   | some (.gD _ t n')=>n'=n/\t=el/\LX n n lo hi none fun l h m=>(l<m->K (.IN i n (0+l*size) (h-l) (m-l)))/\(m=l->K (.emp i n))
   | _=>False
  | some _=>False
 | .IN i n o k c=>match mx with
  | none=>match S i with
   | some (.gD _ t n')=>n'=n/\t=el/\LX k c lo hi none fun l h m=>(l<m->K (.IN i n (o+l*size) (h-l) (m-l)))/\(m=l->K (.emp i n))
   | _=>False
  | some _=>False
 | _=>False
def Df (zero:List Value) (x:V) (S:Hp) (k:Hp->Prop):Prop:=match x with
 | .nil=>k S
 | .own i o n _=>match n with
  | 0=>k S
  | n+1=>sC zero fun z=>match S i with
   | some (.row vs t)=>o+(List.replicate (n+1) z).flatten.length<=vs.length/\k (aJ S i (.row (aY o (List.replicate (n+1) z).flatten vs) t))
   | _=>False
 | .acc i q=>match q with
  | 0=>k S
  | n+1=>sC zero fun z=>match S i with
   | some (.gD vs t m)=>m=q/\(List.replicate (n+1) z).flatten.length<=vs.length/\k (aJ S i (.gD (aY 0 (List.replicate (n+1) z).flatten vs) t m))
   | _=>False
 | .IN i q o n _=>match n with
  | 0=>k S
  | n+1=>sC zero fun z=>match S i with
   | some (.gD vs t m)=>m=q/\o+(List.replicate (n+1) z).flatten.length<=vs.length/\k (aJ S i (.gD (aY o (List.replicate (n+1) z).flatten vs) t m))
   | _=>False
 | _=>False
def Ww (size:Nat) (d x:V) (S:Hp) (K:KV):Prop:=Um size x S fun m new=>match d with
 | .own i o n _=>m<=n/\match m with
  | 0=>K (.int .i64 (.ofNat 0)) S
  | q+1=>new.all fV=true/\match S i with
   | some (.row vs t)=>o+new.length<=vs.length/\K (.int .i64 (.ofNat (q+1))) (aJ S i (.row (aY o new vs) t))
   | _=>False
 | _=>False
def vMk (el:TypeId) (bytes:Nat) (zero:List Value) (l c:V) (S:Hp) (K:KV):Prop:=match l with
 | .int _ (.ofNat l)=>match c with
  | .int _ (.ofNat c)=>l<=c/\bytes*c<=1099511627776/\c<=65536/\sC zero fun z=>aKa (List.replicate c z).flatten el S fun i S=>K (.own i 0 l c) S
  | _=>False
 | _=>False
def VJ (op:UnOp) (a:V) (K:V->Prop):Prop:=match op with
 | .not=>match a with | .bool b=>K (.bool (!b)) | _=>False
 | .neg=>match a with | .int k n=>K (.int k (tC k (Int.sub 0 n))) | _=>False
 | .xor=>match a with | .int k n=>K (.int k (k.wrap (BitVec.ofInt k.bits (if k.signed then-1 else k.max) ^^^ BitVec.ofInt k.bits n).toNat)) | _=>False
 | _=>False
section
variable{α β:Type}
abbrev MD (n:Nat) (z:β) (s:Nat->β):β:=Nat.rec (motive:=fun _=>β) z (fun p _=>s p) n
abbrev aKd (o:Option α) (z:β) (s:α->β):β:=Option.rec (motive:=fun _=>β) z s o
abbrev aF3 (z:β) (s:Nat->β->β) (n:Nat):β:=Nat.rec (motive:=fun _=>β) z s n
abbrev OE (z:β) (s:α->List α->β->β) (l:List α):β:=List.rec (motive:=fun _=>β) z s l
abbrev aKe (z:β) (s:Option α->Tr α->Tr α->β->β->β) (t:Tr α):β:=Tr.rec (motive:=fun _=>β) z s t
abbrev aPA (t:Tr α) (z:β) (s:Option α->Tr α->Tr α->β):β:=Tr.rec (motive:=fun _=>β) z (fun v l r _ _=>s v l r) t
end
section
variable{α:Type}
abbrev aHr (t:Tr α) (n:Nat) (k:α->Prop):Prop:=
 aKe (β:=Nat->Prop) (fun _=>False) (fun v _ _ gl gr n=>MD n (aKd v False k) fun p=>MD (Nat.mod p 2) (gl (Nat.div p 2)) fun _=>gr (Nat.div p 2)) t n
abbrev aHs (x:α) (f:Nat):Tr α->Nat->(Tr α->Prop)->Prop:=
 aF3 (β:=Tr α->Nat->(Tr α->Prop)->Prop) (fun t _ k=>k t)
  (fun _ ih t n k=>aPA t
   (MD n (k (.node (some x) .leaf .leaf)) fun p=>MD (Nat.mod p 2) (ih .leaf (Nat.div p 2) fun c=>k (.node none c .leaf)) fun _=>ih .leaf (Nat.div p 2) fun c=>k (.node none .leaf c))
   (fun v l r=>MD n (k (.node (some x) l r)) fun p=>MD (Nat.mod p 2) (ih l (Nat.div p 2) fun c=>k (.node v c r)) fun _=>ih r (Nat.div p 2) fun c=>k (.node v l c))) f
abbrev aHt (t:Tr α) (n:Nat) (k:Prop):Prop:=
 aKe (β:=Nat->Prop) (fun _=>k) (fun v _ _ gl gr n=>MD n (aKd v k fun _=>False) fun p=>MD (Nat.mod p 2) (gl (Nat.div p 2)) fun _=>gr (Nat.div p 2)) t n
abbrev aKf (t:Tr α) (n:Nat) (k:Tr α->Prop):Prop:=
 aKe (β:=Nat->(Tr α->Prop)->Prop) (fun _ k=>k .leaf) (fun v l r dl dr n k=>MD n (k (.node none l r)) fun p=>MD (Nat.mod p 2) (dl (Nat.div p 2) fun c=>k (.node v c r)) fun _=>dr (Nat.div p 2) fun c=>k (.node v l c)) t n k
end
structure VTm where
 t:Tr V
 n:Nat
structure VA where
 tmps:VTm
 g:Nat
abbrev Ux (T:VTm) (i:Nat) (k:V->Prop):Prop:=aHr T.t i k
abbrev Bg (v:V) (T:VTm) (i:Nat) (k:VTm->Prop):Prop:=match T with
 | ⟨t,n⟩=>match Nat.blt i n with
  | true=>aHs v (Nat.succ i) t i fun t=>k ⟨t,n⟩
  | false=>False
abbrev Rr (A:VA) (d:Tmp) (v:V) (k:VA->Prop):Prop:=match A with
 | ⟨T,g⟩=>Bg v T d fun T=>k ⟨T,g⟩
abbrev aRr (n:Nat) (args:List V) (k:VTm->Prop):Prop:=
 OE (β:=Nat->VTm->Prop) (fun _ T=>k T) (fun a _ ih i T=>Bg a T i fun T=>ih (Nat.succ i) T) args 0 ⟨.leaf,n⟩
def ofC (v:Value):Option V:=match v with
 | .agg ⟨cs⟩=>match LR cs with | some l=>some (.agg l) | none=>none
 | v=>ofV v
structure EvV where
 f:VA->(V->Prop)->Prop
def AT (x:Operand):EvV:=match x with
 | .tmp t=>⟨fun A k=>Ux A.tmps t k⟩
 | .const v=>match ofC v with | some d=>⟨fun _ k=>k d⟩ | none=>⟨fun _ _=>False⟩
 | .global _=>⟨fun _ _=>False⟩
 | .func f=>⟨fun _ k=>k (.func f [] [])⟩
structure aRs where
 f:VA->(List V->Prop)->Prop
def aHu (xs:List Operand):aRs:=OE (β:=aRs) ⟨fun _ k=>k []⟩ (fun x _ ih=>⟨fun A k=>(AT x).f A fun v=>ih.f A fun vs=>k (v::vs)⟩) xs
structure PtV where
 f:VA->(List (Nat×Nat×V)->Prop)->Prop
def Jm (place:Nat->Option (Nat×Nat)) (ps:List (Nat×Operand)):PtV:=
 OE (β:=PtV) ⟨fun _ k=>k []⟩ (fun p _ ih=>match place p.1 with
  | some (off,size)=>⟨fun A k=>(AT p.2).f A fun v=>ih.f A fun l=>k ((off,size,v)::l)⟩
  | none=>⟨fun _ _=>False⟩) ps
inductive Dx (S' S:Hp):V->Dt->Prop
 | int {k:IntKind} {z:Int}:Dx S' S (.int k z) (.int k z)
 | bool {b:Bool}:Dx S' S (.bool b) (.bool b)
 | str {l:List UInt8}:Dx S' S (.str l) (.str l)
 | list {O:Tag} {cs:List Dt} {n:Nat}:Dx S' S (.list O cs n) (.list cs n)
 | nil:Dx S' S .nil (.list [] 0)
 | acc {i n:Nat} {vs:List V} {t:TypeId} {cs:List Dt} (h:S i=some (.gD vs t n)) (hn:S' i=none) (hl:vs.length=cs.length) (hr:∀(j:Nat) (v:V) (d:Dt),vs[j]? =some v->cs[j]? =some d->Dx S' S v d):Dx S' S (.acc i n) (.list cs n)
 | IN {i n o k c:Nat} {vs:List V} {t:TypeId} {cs:List Dt} (h:S i=some (.gD vs t n)) (hn:S' i=none) (hc:k<=c) (hl:o+cs.length<=vs.length) (hr:∀(j:Nat) (v:V) (d:Dt),vs[o+j]? =some v->cs[j]? =some d->Dx S' S v d):Dx S' S (.IN i n o k c) (.list cs k)
 | own {i o n c:Nat} {vs:List V} {t:TypeId} {cs:List Dt} (h:S i=some (.row vs t)) (hn:S' i=none) (hc:n<=c) (hl:o+cs.length<=vs.length) (hr:∀(j:Nat) (v:V) (d:Dt),vs[o+j]? =some v->cs[j]? =some d->Dx S' S v d):Dx S' S (.own i o n c) (.list cs n)
inductive Fz1 (S' S:Hp) (O:Tag):V->V->Prop
 | mI (v:V):Fz1 S' S O v v
 | ZE {v:V} {d:Dt} (h:Dx S' S v d):Fz1 S' S O v (T O d)
def FzL (S' S:Hp) (O:Nat->Tag) (vs us:List V):Prop:=us.length=vs.length/\∀(j:Nat) (v u:V),vs[j]? =some v->us[j]? =some u->Fz1 S' S (O j) v u
inductive Fz (S' S:Hp) (O:Nat->Tag):V->V->Prop
 | one {v u:V} (h:Fz1 S' S (O 0) v u):Fz S' S O v u
 | agg {vs us:List V} (h:FzL S' S O vs us):Fz S' S O (.agg vs) (.agg us)
 | tup {vs us:List V} (h:FzL S' S O vs us):Fz S' S O (.tuple vs) (.tuple us)
 | aRt {as bs vs us:List V} (hl:bs.length=as.length) (h:FzL S' S (fun k=>O (k+(vs.length+1))) (as++vs) (bs++us)):Fz S' S O (.tuple (.agg as::vs)) (.tuple (.agg bs::us))
def bE (v:V) (S:Hp) (K:KV):Prop:=∃(S':Hp) (u:(Nat->Tag)->V),bP S' S/\(∀O,Fz S' S O v (u O))/\∀O,K (u O) S'
def cS (S:Hp) (k:Hp->Prop):Prop:=∃S',bP S' S/\k S'
structure VE where
 C:aNX
 R:Nat->List V->Hp->KV->Prop
 most:Nat
def VE.call (E:VE) (c:FuncId) (args:List V) (S:Hp) (K:KV):Prop:=∃(S':Hp) (us:(Nat->Tag)->List V),bP S' S/\(∀O,FzL S' S O args (us O))/\∀O,E.C c (us O) S' K
def lJ (E:VE) (f:V) (args:List V) (S:Hp) (K:KV):Prop:=match f with
 | .func g a c=>E.call g (a++args++c) S K
 | .yield l=>E.R l args S K
 | _=>False
def PH (E:VE) (f:V) (ls:List Nat) (vs:List V) (n:Nat) (ps:List Tmp) (as bo:Code) (S:Hp) (k:Option Code->Hp->Prop):Prop:=match f with
 | .func g a c=>∀l,S l=none->E.call g (a++[.yield l]++c) (aJ S l (.loop ls vs n ps as bo .ready none)) fun _ S=>Wv l S k
 | _=>False
structure OpV where
 f:VE->VA->Hp->KV->Prop
def FA:OpV:=⟨fun _ _ _ _=>False⟩
def aKg (P:Program) (c:Call):OpV:=
 match c.callee with
 | .builtin .len=>match c.argTypes.toList,c.args.toList with
  | [t],[a]=>match isSlice P t,P.underlying t with
   | some _,_=>⟨fun _ A S K=>(AT a).f A fun v=>bK v fun v=>K v S⟩
   | none,some .string=>⟨fun _ A S K=>(AT a).f A fun v=>aKb v fun v=>K v S⟩
   | none,some (.map _ _)=>⟨fun _ A S K=>(AT a).f A fun v=>Rm v S K⟩
   | _,_=>FA
  | _,_=>FA
 | .builtin .append=>match c.argTypes.toList,c.args.toList with
  | [sT,xT],[a,b]=>match isSlice P sT,Tn (P.underlying xT)with
   | some el,true=>match P.info? el with
    | some info=>match info.size,info.zero with
     | n+1,some z=>match Nat.beq z.cells.size (n+1),Nat.beq ((cQ P el).getD 0) (n+1)with
      | true,true=>⟨fun _ A S K=>(AT a).f A fun a=>(AT b).f A fun b=>jY el (n+1) info.bytes a b S K⟩
      | _,_=>FA
     | _,_=>FA
    | none=>FA
   | _,_=>FA
  | _,_=>FA
 | .builtin .min=>match c.args.toList with
  | [a,b]=>⟨fun _ A S K=>(AT a).f A fun a=>(AT b).f A fun b=>Dc false a b fun v=>K v S⟩
  | _=>FA
 | .builtin .max=>match c.args.toList with
  | [a,b]=>⟨fun _ A S K=>(AT a).f A fun a=>(AT b).f A fun b=>Dc true a b fun v=>K v S⟩
  | _=>FA
 | .builtin .clear=>match c.argTypes.toList,c.args.toList with
  | [t],[a]=>match isSlice P t with
   | some el=>match cQ P el,xC P el with
    | some (m+1),some zero=>match Nat.beq zero.length (m+1),xU bW zero with
     | true,true=>⟨fun _ A S K=>(AT a).f A fun a=>Df zero a S fun S=>K YA S⟩
     | _,_=>FA
    | _,_=>FA
   | none=>FA
  | _,_=>FA
 | .builtin .copy=>match c.argTypes.toList,c.args.toList with
  | dT::_,[a,b]=>match isSlice P dT with
   | some el=>match cQ P el with
    | some (m+1)=>⟨fun _ A S K=>(AT a).f A fun a=>(AT b).f A fun b=>Ww (m+1) a b S K⟩
    | _=>FA
   | none=>FA
  | _,_=>FA
 | .builtin _=>FA
 | .value f=>⟨fun E A S K=>(aHu c.args.toList).f A fun args=>(AT f).f A fun f=>lJ E f args S K⟩
 | .invoke r m=>⟨fun E A S K=>(aHu c.args.toList).f A fun args=>(AT r).f A fun v=>aRk P E.call v m args S K⟩
structure OvO where
 f:VA->(Option V->Prop)->Prop
def evO (x:Option Operand):OvO:=match x with
 | none=>⟨fun _ k=>k none⟩
 | some x=>⟨fun A k=>(AT x).f A fun v=>k (some v)⟩
def aNY (mx hi:Option Operand):Bool:=match mx,hi with | some _,none=>false | _,_=>true
def aEk (P:Program) (t:TypeId) (x:Operand) (lo hi mx:Option Operand):OpV:=
 match isSlice P t with
  | some el=>match cQ P el with
   | some size=>⟨fun _ A S K=>(AT x).f A fun x=>(evO lo).f A fun lo=>(evO hi).f A fun hi=>(evO mx).f A fun mx=>LW el size x lo hi mx S fun v=>K v S⟩
   | none=>FA
  | none=>match P.underlying t with
   | some .string=>match mx with
    | none=>⟨fun _ A S K=>(AT x).f A fun x=>(evO lo).f A fun lo=>(evO hi).f A fun hi=>aRo x lo hi fun v=>K v S⟩
    | some _=>FA
   | some (.array len el)=>match cQ P el with
    | some size=>⟨fun _ A S K=>(AT x).f A fun x=>(evO lo).f A fun lo=>(evO hi).f A fun hi=>(evO mx).f A fun mx=>aRp len size x lo hi mx fun v=>K v S⟩
    | none=>FA
   | _=>FA
def Dh (P:Program) (t:TypeId) (l c:Operand):OpV:=
 match isSlice P t with
  | some el=>match P.info? el,xC P el with
   | some info,some zero=>match Nat.beq zero.length info.size,info.size,xU bW zero with
    | true,_+1,true=>⟨fun _ A S K=>(AT l).f A fun l=>(AT c).f A fun c=>vMk el info.bytes zero l c S K⟩
    | _,_,_=>FA
   | _,_=>FA
  | none=>FA
def aAA (P:Program) (t:TypeId) (x ix:Operand) (ok:Bool):OpV:=match IU P t with
 | some (kt,et)=>match Rk P kt,zeroV P et with
  | some sh,some z=>match ofC z with
   | some z=>⟨fun _ A S K=>(AT x).f A fun x=>(AT ix).f A fun ix=>Rl sh z ok x ix S K⟩
   | none=>FA
  | _,_=>FA
 | none=>FA
def aAB (P:Program) (t:TypeId) (m a x:Operand):OpV:=match IU P t with
 | some (kt,_)=>match Rk P kt with
  | some sh=>⟨fun _ A S K=>(AT m).f A fun m=>(AT a).f A fun a=>(AT x).f A fun x=>AC sh m a x S fun S=>K YA S⟩
  | none=>FA
 | none=>FA
def aCm (P:Program) (t:TypeId):Bool:=match P.underlying t with | some (.interface _)=>false | some _=>true | none=>false
def opV (P:Program) (o:Oper):OpV:=
 match o.op with
 | .move x=>⟨fun _ A S K=>(AT x).f A fun v=>K v S⟩
 | .assign x=>⟨fun _ A S K=>(AT x).f A fun v=>K v S⟩
 | .pick c a b=>⟨fun E A S K=>(AT c).f A fun c=>(AT a).f A fun a=>(AT b).f A fun b=>UK E.most (Wo c a b fun v=>K v S)⟩
 | .alloc t=>match xC P t with
  | some z=>match xU bW z with
   | true=>⟨fun _ _ S K=>cN z t S K⟩
   | false=>FA
  | none=>FA
 | .box t x=>⟨fun _ A S K=>(AT x).f A fun v=>iE t v S K⟩
 | .build t ps=>match xC P t,P.underlying t with
  | some zero,some (.struct fields)=>match placesOf P fields.toList with
   | some pl=>match xU bW zero,ps.toList.all fun p=>(pl[p.1]?).isSome with
    | true,true=>⟨fun _ A S K=>(Jm (pl[·]?) ps.toList).f A fun l=>cF zero l fun v=>K v S⟩
    | _,_=>FA
   | none=>FA
  | some zero,some (.array _ elem)=>match cQ P elem with
   | some size=>match xU bW zero with
    | true=>⟨fun _ A S K=>(Jm (fun i=>some (i*size,size)) ps.toList).f A fun l=>cF zero l fun v=>K v S⟩
    | false=>FA
   | none=>FA
  | _,_=>FA
 | .buildSlice t len ps=>match isSlice P t with
  | some elem=>match cQ P elem,xC P elem with
   | some (size+1),some zero=>match Nat.ble (len*(size+1)) 16777216,Nat.beq zero.length (size+1)with
    | true,true=>match xU bW zero with
     | true=>⟨fun _ A S K=>(Jm (fun i=>some (i*(size+1),size+1)) ps.toList).f A fun l=>aP elem len zero l S K⟩
     | false=>FA
    | _,_=>FA
   | _,_=>FA
  | none=>FA
 | .load t a=>match xV P t,cQ P t with
  | some false,_=>⟨fun _ A S K=>(AT a).f A fun a=>aU a S K⟩
  | some true,some (n+1)=>⟨fun _ A S K=>(AT a).f A fun a=>bJ (n+1) a S K⟩
  | _,_=>FA
 | .store t a x=>match cQ P t with
  | some n=>⟨fun _ A S K=>(AT a).f A fun a=>(AT x).f A fun x=>mB n a x S fun S=>K YA S⟩
  | none=>FA
 | .nilCheck x=>⟨fun _ A S K=>(AT x).f A fun v=>nB P v fun v=>K v S⟩
 | .binOp op t x y _=>match xV P t with
  | some true=>⟨fun _ A S K=>(AT x).f A fun a=>(AT y).f A fun b=>aPz P op t a b fun v=>K v S⟩
  | _=>⟨fun _ A S K=>(AT x).f A fun a=>(AT y).f A fun b=>aH P op t a b fun v=>K v S⟩
 | .unOp op _ x=>⟨fun _ A S K=>(AT x).f A fun a=>VJ op a fun v=>K v S⟩
 | .convert s d x=>match P.underlying s,P.underlying d with
  | some (.int _),some (.int k)=>⟨fun _ A S K=>(AT x).f A fun a=>LU k a fun v=>K v S⟩
  | _,_=>FA
 | .makeInterface t x=>match aCm P t with
  | true=>⟨fun _ A S K=>(AT x).f A fun v=>K (.iface t v) S⟩
  | false=>FA
 | .makeFunc fn first cap=>match fn with
  | .func f=>⟨fun _ A S K=>(aHu first.toList).f A fun a=>(aHu cap.toList).f A fun b=>K (.func f a b) S⟩
  | .method s=>match first.toList,cap.toList with
   | [x],[]=>⟨fun _ A S K=>(AT x).f A fun v=>K (.LC s v) S⟩
   | _,_=>FA
  | _=>FA
 | .fieldAddr s x f=>match DN P s f with
  | some fd=>match cQ P fd.type with
   | some (_+1)=>⟨fun _ A S K=>(AT x).f A fun x=>aS fd.offset x fun v=>K v S⟩
   | _=>FA
  | none=>FA
 | .field t x f=>match DN P t f with
  | some fd=>match xV P fd.type,cQ P fd.type with
   | some false,_=>⟨fun _ A S K=>(AT x).f A fun x=>aEe fd.offset x fun v=>K v S⟩
   | some true,some n=>⟨fun _ A S K=>(AT x).f A fun x=>aAw fd.offset n x fun v=>K v S⟩
   | _,_=>FA
  | none=>FA
 | .indexAddr t x ix=>match isSlice P t with
  | some el=>match cQ P el with
   | some n=>⟨fun _ A S K=>(AT x).f A fun x=>(AT ix).f A fun ix=>cI n x ix fun v=>K v S⟩
   | none=>FA
  | none=>FA
 | .index t x ix=>match P.underlying t with
  | some .string=>⟨fun _ A S K=>(AT x).f A fun x=>(AT ix).f A fun ix=>aEf x ix fun v=>K v S⟩
  | _=>FA
 | .slice t x lo hi mx=>match aNY mx hi with
  | true=>aEk P t x lo hi mx
  | false=>FA
 | .makeSlice t l c=>Dh P t l c
 | .makeMap _ none=>⟨fun _ _ S K=>Gr S K⟩
 | .makeMap t (some r)=>match IU P t with
  | some _=>⟨fun _ A S K=>(AT r).f A fun r=>Gt r S K⟩
  | none=>FA
 | .range t x=>match IU P t with
  | some _=>⟨fun _ A S K=>(AT x).f A fun x=>HK x S K⟩
  | none=>FA
 | .next it false=>⟨fun _ A S K=>(AT it).f A fun x=>MC x S K⟩
 | .entry it=>⟨fun _ A S K=>(AT it).f A fun x=>TH x S K⟩
 | .lookup t x ix ok=>aAA P t x ix ok
 | .mapUpdate t m k x=>aAB P t m k x
 | .insert t m k x=>aAB P t m k x
 | .extract t i=>⟨fun _ A S K=>(AT t).f A fun v=>uG i v fun v=>K v S⟩
 | .call c=>aKg P c
 | _=>FA
abbrev KSV:=VA->Hp->Prop
structure StV where
 f:VE->VA->Hp->KSV->Prop
structure ChV where
 f:VE->VA->Hp->Prop->Prop
def aNZ (P:Program) (o:Oper):StV:=
 match o.dst with
 | some d=>⟨fun E A S k=>(opV P o).f E A S fun v S=>Rr A d v fun A=>k A S⟩
 | none=>⟨fun E A S k=>(opV P o).f E A S fun _ S=>k A S⟩
def doV (P:Program) (ops:Array Oper) (o:Oper):StV:=
 match o.guard with
 | none=>aNZ P o
 | some (j,w)=>match ops[j]? with
  | some o'=>match o'.dst with
   | some g=>match o.dst with
    | some d=>⟨fun E A S k=>Ux A.tmps g fun b=>UK E.most (PF w b (fun k=>(opV P o).f E A S k) S fun v S=>Rr A d v fun A=>k A S)⟩
    | none=>⟨fun E A S k=>Ux A.tmps g fun b=>UK E.most (PF w b (fun k=>(opV P o).f E A S k) S fun _ S=>k A S)⟩
   | none=>⟨fun _ _ _ _=>False⟩
  | none=>⟨fun _ _ _ _=>False⟩
def opsV (P:Program) (ops:Array Oper) (l:List Oper):StV:=
 OE (β:=StV) ⟨fun _ A S k=>k A S⟩ (fun o _ ih=>⟨fun E A S k=>(doV P ops o).f E A S fun A S=>ih.f E A S k⟩) l
def Ac (P:Program) (ops:Array Oper) (l:List Nat):ChV:=
 OE (β:=ChV) ⟨fun _ _ _ k=>k⟩ (fun i _ ih=>match ops[i]? with
  | some o=>match o.dst with
   | some d=>match o.guard with
    | none=>⟨fun E A S k=>Ux A.tmps d fun u=>(opV P o).f E A S fun v _=>aW v u (ih.f E A S k)⟩
    | some (j,w)=>match ops[j]? with
     | some o'=>match o'.dst with
      | some g=>⟨fun E A S k=>Ux A.tmps d fun u=>Ux A.tmps g fun b=>UK E.most (TF w b u (fun k=>(opV P o).f E A S fun v _=>aW v u k) (ih.f E A S k))⟩
      | none=>⟨fun _ _ _ _=>False⟩
     | none=>⟨fun _ _ _ _=>False⟩
   | none=>⟨fun _ _ _ _=>False⟩
  | none=>⟨fun _ _ _ _=>False⟩) l
def aCn (P:Program) (ops:Array Oper) (i:Nat) (o:Oper):OpV:=match fD P ops i with
 | none=>opV P o
 | some _=>FA
def UL (P:Program) (ops:Array Oper) (l:List Nat):StV:=
 OE (β:=StV) ⟨fun _ A S k=>k A S⟩ (fun i _ ih=>match ops[i]? with
  | some o=>match o.dst with
   | some d=>⟨fun E A S k=>(aCn P ops i o).f E A S fun v S=>Rr A d v fun A=>ih.f E A S k⟩
   | none=>⟨fun E A S k=>(aCn P ops i o).f E A S fun _ S=>ih.f E A S k⟩
  | none=>⟨fun _ _ _ _=>False⟩) l
abbrev aPB (A:VA) (o:Oper) (k:Prop):Prop:=match o.dst with
 | some d=>aHt A.tmps.t d k
 | none=>False
def aAC (P:Program) (ops:Array Oper) (l:List (Nat×List Nat)):ChV:=
 OE (β:=ChV) ⟨fun _ _ _ k=>k⟩ (fun p _ ih=>match ops[p.1]? with
  | some o=>⟨fun E A S k=>aPB A o (((UL P ops p.2).f E A S fun A S=>(aCn P ops p.1 o).f E A S fun _ _=>True)/\ih.f E A S k)⟩
  | none=>⟨fun _ _ _ _=>False⟩) l
def OF (P:Program) (ops:Array Oper) (l:List zJ):StV:=
 OE (β:=StV) ⟨fun _ _ _ _=>False⟩ (fun s _ ih=>match s with
  | .take i=>match ops[i]? with
   | some o=>⟨fun E A S k=>(doV P ops o).f E A S fun A S=>ih.f E A S k⟩
   | none=>⟨fun _ _ _ _=>False⟩
  | .Vy BX nJ D r GH=>match ops[r]? with
   | some o=>⟨fun E A S k=>(Ac P ops BX).f E A S ((aAC P ops nJ).f E A S ((UL P ops D).f E A S fun A S=>(doV P ops o).f E A S fun A S=>(Ac P ops GH).f E A S (ih.f E A S k)))⟩
   | none=>⟨fun _ _ _ _=>False⟩
  | .fin BX nJ D=>⟨fun E A S k=>(Ac P ops BX).f E A S ((aAC P ops nJ).f E A S ((UL P ops D).f E A S k))⟩) l
abbrev aCo (ops:Array Oper) (l:List Nat) (A:VA) (k:VA->Prop):Prop:=
 OE (β:=VA->Prop) k (fun i _ ih A=>match ops[i]? with
  | some o=>match o.dst with
   | some d=>match A with | ⟨⟨t,n⟩,g⟩=>aKf t d fun t=>ih ⟨⟨t,n⟩,g⟩
   | none=>False
  | none=>False) l A
def ME (P:Program) (ops:Array Oper) (l:List zJ):StV:=
 OE (β:=StV) ⟨fun _ A S k=>k A S⟩ (fun s _ ih=>match s with
  | .take i=>match ops[i]? with
   | some o=>⟨fun E A S k=>(doV P ops o).f E A S fun A S=>ih.f E A S k⟩
   | none=>⟨fun _ _ _ _=>False⟩
  | .Vy BX nJ D r GH=>match ops[r]? with
   | some o=>⟨fun E A S k=>(Ac P ops BX).f E A S ((aAC P ops nJ).f E A S ((UL P ops D).f E A S fun A S=>(doV P ops o).f E A S fun A S=>(Ac P ops GH).f E A S (ih.f E A S k)))⟩
   | none=>⟨fun _ _ _ _=>False⟩
  | .fin _ _ _=>⟨fun _ _ _ _=>False⟩) l
def aF4 (w:Bool) (v:V) (k:Prop):Prop:=match v with
 | .bool b=>match w,b with | true,true=>k | false,false=>k | _,_=>False
 | _=>False
def aEl (P:Program) (p:XH):Array Oper->StV:=
 XH.rec (motive:=fun _=>Array Oper->StV) (fun l ops=>OF P ops l) (fun l g t b _ ih ops=>⟨fun E A S k=>(ME P ops l).f E A S fun A S=>Ux A.tmps t fun v=>aF4 b v ((ih (fB ops g b)).f E A S k)⟩) p
def aMU (P:Program) (ops:Array Oper) (draw:Bool):StV:=
 match draw with
 | true=>match Fd P ops with
  | some l=>match QC l with
   | []=>OF P ops l
   | ls=>⟨fun E A S k=>aCo ops ls A fun A=>(OF P ops l).f E A S k⟩
  | none=>match LE ops with
   | true=>match Ff P (ops.size+1) ops ⟨List.replicate ops.size false⟩ []with
    | some p=>⟨fun E A S k=>aCo ops (Zl p) A fun A=>(aEl P p ops).f E A S k⟩
    | none=>⟨fun _ _ _ _=>False⟩
   | false=>⟨fun _ _ _ _=>False⟩
 | false=>opsV P ops ops.toList
abbrev CV:=zH->VA->Hp->Prop
structure CdV where
 f:VE->VA->Hp->CV->Prop
abbrev QW (l:List Nat) (A:VA) (k:List V->Prop):Prop:=
 OE (β:=(List V->Prop)->Prop) (fun k=>k []) (fun i _ ih k=>Ux A.tmps i fun v=>ih fun vs=>k (v::vs)) l k
abbrev TI (l:List Nat) (vs:List V) (nt g:Nat) (k:VA->Prop):Prop:=
 OE (β:=List V->VTm->Prop) (fun _ T=>k ⟨T,g⟩) (fun i _ ih vs T=>match vs with | v::vs=>Bg v T i fun T=>ih vs T | []=>False) l vs ⟨.leaf,nt⟩
abbrev LpV:=VE->List V->Nat->Hp->(zH->List V->Nat->Hp->Prop)->Prop
section
variable (P:Program) (tb:tD) (r:Option Nat)
abbrev aAD (a:Code) (ih:List V->Nat->Hp->Prop) (K:zH->List V->Nat->Hp->Prop):CV:=fun e A S=>match e with
 | .normal=>QW (zV tb a) A fun vs=>ih vs A.tmps.n S
 | e=>QW (Fo tb a e) A fun vs=>K e vs A.tmps.n S
def ZH (a:Code) (body:CdV) (E:VE) (K:zH->List V->Nat->Hp->Prop):Nat->List V->Nat->Hp->Prop:=
 aF3 (β:=List V->Nat->Hp->Prop) (fun _ _ _=>False) (fun _ ih vs n S=>cS S fun S=>TI (zV tb a) vs n P.globals.size fun A=>body.f E A S (aAD tb a ih K))
def aKh (a:Code) (body:CdV):LpV:=fun E vs n S K=>ZH P tb a body E K E.most vs n S
abbrev aHv (a:Code) (K:CV):zH->List V->Nat->Hp->Prop:=fun e vs n S=>TI (Fo tb a e) vs n P.globals.size fun A=>K e A S
def aRu (a:Code) (lp:LpV):CdV:=⟨fun E A S K=>QW (zV tb a) A fun vs=>lp E vs A.tmps.n S (aHv P tb a K)⟩
def aKi (l:List Nat) (b:CdV) (E:VE) (K:CV) (vs:List V) (n:Nat) (S:Hp):Prop:=MD E.most False fun _=>cS S fun S=>TI l vs n P.globals.size fun A=>b.f E A S K
abbrev aF5 (j:Option (List Nat)) (b:CdV) (E:VE) (K:CV):CV:=fun e A S=>match e with
 | .normal=>match j with
  | none=>b.f E A S K
  | some l=>QW l A fun vs=>aKi P l b E K vs A.tmps.n S
 | e=>K e A S
abbrev aEm (id:Nat) (K:CV):CV:=fun e A S=>match e with
 | .exit i=>Bf i id (K .normal A S) (K (.exit i) A S)
 | e=>K e A S
def aAE (a:Code):List Nat:=match sA a with | some i=>(tb.loop (1000000+i)).1 | none=>[]
def rOk (r:Option Nat) (S:Hp) (p:Prop):Prop:=match r with | none=>p | some l=>SY l S p
def aAF (f:Operand) (ps:Array Tmp) (as bo:Code):CdV:=⟨fun E A S K=>(AT f).f A fun f=>QW (aAE tb bo) A fun vs=>rOk r S (PH E f (aAE tb bo) vs A.tmps.n ps.toList as bo S fun pe S=>UJ pe (K .normal A S) (K .ret A S) fun id=>K (.exit id) A S)⟩
def tG (lp:Code->LpV):Code->CdV
 | .skip=>⟨fun _ A S K=>K .normal A S⟩
 | .region _ ops draw=>⟨fun E A S K=>(aMU P ops draw).f E A S fun A S=>K .normal A S⟩
 | .seq a b=>⟨fun E A S K=>(tG lp a).f E A S (aF5 P (IY tb b) (tG lp b) E K)⟩
 | .cond c a b=>⟨fun E A S K=>(AT c).f A fun v=>iQ v ((tG lp a).f E A S K) ((tG lp b).f E A S K)⟩
 | .block id a=>⟨fun E A S K=>(tG lp a).f E A S (aEm id K)⟩
 | .loop a=>aRu P tb a (lp a)
 | .scope a=>tG lp a
 | .rangeFunc f ps as bo=>aAF tb r f ps as bo
 | .exit id=>⟨fun _ A S K=>K (.exit id) A S⟩
 | .label _=>⟨fun _ A S K=>K .normal A S⟩
 | .ret=>⟨fun _ A S K=>K .ret A S⟩
 | _=>⟨fun _ _ _ _=>False⟩
def Ab:Nat->Code->LpV
 | 0=>fun _ _ _ _ _ _=>False
 | n+1=>fun a=>aKh P tb a (tG P tb r (Ab n) a)
end
section
variable (P:Program) (tb:FuncId->tD)
abbrev MF (rs:List ResultVar) (A:VA) (S:Hp) (k:List V->Prop):Prop:=
 OE (β:=(List V->Prop)->Prop) (fun k=>k []) (fun x _ ih k=>match x with
  | .tmp t=>Ux A.tmps t fun v=>ih fun vs=>k (v::vs)
  | .cell a t=>match xV P t,cQ P t with
   | some false,_=>Ux A.tmps a fun a=>aU a S fun v _=>ih fun vs=>k (v::vs)
   | some true,some (n+1)=>Ux A.tmps a fun a=>bJ (n+1) a S fun v _=>ih fun vs=>k (v::vs)
   | _,_=>False) rs k
abbrev aKj (fn:Func) (K:KV):CV:=fun e A S=>match e with
 | .exit _=>False
 | _=>MF P fn.results.toList A S fun vs=>match vs with | [v]=>bE v S K | vs=>bE (.tuple vs) S K
def jU (f:FuncId) (E:VE) (args:List V) (S:Hp) (K:KV):Prop:=
 match P.funcs[f]? with
 | some fn=>match fn.body with
  | some c=>aRr fn.ntmps args fun ts=>(tG P (tb f) none (Ab P (tb f) none FH) c).f E ⟨ts,P.globals.size⟩ S (aKj P fn K)
  | none=>False
 | none=>False
abbrev aRv (l:Nat) (K:KV):CV:=fun e _ S=>match e with
 | .normal=>JR l .ready none true S K
 | .ret=>JR l .done (some .ret) false S K
 | .exit id=>JR l .done (some (.exit id)) false S K
abbrev aPC (n l:Nat) (bo:Code) (E:VE) (K:KV):CV:=fun e A S=>match e with
 | .normal=>Be l S fun S=>(tG P (tb (Iw n bo)) (some l) (Ab P (tb (Iw n bo)) (some l) FH) bo).f E A S (aRv l K)
 | _=>False
abbrev aKk (ps:List Tmp) (args:List V) (T:VTm) (k:VTm->Prop):Prop:=
 OE (β:=List V->VTm->Prop) (fun as T=>match as with | []=>k T | _=>False) (fun p _ ih as T=>match as with | a::as=>Bg a T p fun T=>ih as T | []=>False) ps args T
def YD (E:VE) (n:Nat) (ps:List Tmp) (as bo:Code) (l:Nat) (vs args:List V) (S:Hp) (K:KV):Prop:=
 TI (Au tb n bo) vs n P.globals.size fun A=>aKk ps args A.tmps fun T=>(tG P (tb (Iw n bo)) (some l) (Ab P (tb (Iw n bo)) (some l) FH) as).f E ⟨T,P.globals.size⟩ S (aPC P tb n l bo E K)
def Dg (E:VE) (l:Nat) (args:List V) (S:Hp) (K:KV):Prop:=match S l with
 | some (.loop ls vs n ps as bo _ _)=>ls=Au tb n bo/\YD P tb E n ps as bo l vs args S K
 | _=>False
abbrev OvV:=FuncId->Option (List V->Hp->KV->Prop)
def aAz (ov:OvV) (most:Nat) (n:Nat):VE:=
 aF3 (β:=VE) ⟨fun _ _ _ _=>False,fun _ _ _ _=>False,most⟩ (fun _ E=>⟨fun f args S K=>match ov f with | some g=>g args S K | none=>jU P tb f E args S K,fun l args S K=>Dg P tb E l args S K,most⟩) n
variable (Tb:tD) (r:Option Nat) (E:VE)
def uH:List Dir->Nat->Code->List Nat->CV->(Nat->Code->CV->Prop)->Prop
 | [],D,c,_,K,k=>k D c K
 | .l::p,D,.seq a b,ms,K,k=>uH p D a ms (aF5 P (IY Tb b) (tG P Tb r (Ab P Tb r D) b) E K) k
 | .r::p,D,.seq _ b,ms,K,k=>uH p D b ms K k
 | .l::p,D,.cond _ a _,ms,K,k=>uH p D a ms K k
 | .r::p,D,.cond _ _ b,ms,K,k=>uH p D b ms K k
 | .d::p,D,.block id a,ms,K,k=>uH p D a ms (aEm id K) k
 | .d::p,D,.scope a,ms,K,k=>uH p D a ms K k
 | .d::p,D+1,.loop a,m::ms,K,k=>uH p D a ms (aAD Tb a (ZH P Tb a (tG P Tb r (Ab P Tb r D) a) E (aHv P Tb a K) m) (aHv P Tb a K)) k
 | _,_,_,_,_,_=>False
def Wx (f:FuncId) (E:VE) (p:List Dir) (ms:List Nat) (vs:List V) (S:Hp) (K:KV):Prop:=
 match P.funcs[f]? with
 | some fn=>match fn.body with
  | some c=>uH P (tb f) none E p FH c ms (aKj P fn K) fun D c K=>match IY (tb f) c with
   | some l=>aKi P l (tG P (tb f) none (Ab P (tb f) none D) c) E K vs fn.ntmps S
   | none=>False
  | none=>False
 | none=>False
def Wy (f:FuncId) (E:VE) (p:List Dir) (ms:List Nat) (vs:List V) (S:Hp) (K:KV):Prop:=
 match P.funcs[f]? with
 | some fn=>match fn.body with
  | some c=>uH P (tb f) none E p FH c ms (aKj P fn K) fun D c K=>match IY (tb f) c with
   | some l=>cS S fun S=>TI l vs fn.ntmps P.globals.size fun A=>(tG P (tb f) none (Ab P (tb f) none D) c).f E A S K
   | none=>False
  | none=>False
 | none=>False
def dQ (f:FuncId) (E:VE) (p:List Dir) (m:Nat) (ms:List Nat) (vs:List V) (S:Hp) (K:KV):Prop:=
 match P.funcs[f]? with
 | some fn=>match fn.body with
  | some c=>uH P (tb f) none E p FH c ms (aKj P fn K) fun D c K=>match D,c with
   | D+1,.loop a=>ZH P (tb f) a (tG P (tb f) none (Ab P (tb f) none D) a) E (aHv P (tb f) a K) m vs fn.ntmps S
   | _,_=>False
  | none=>False
 | none=>False
def TJ:List Dir->Code->Code
 | [],c=>c
 | .l::p,.seq a _=>TJ p a
 | .r::p,.seq _ b=>TJ p b
 | .l::p,.cond _ a _=>TJ p a
 | .r::p,.cond _ _ b=>TJ p b
 | .d::p,.block _ a=>TJ p a
 | .d::p,.scope a=>TJ p a
 | .d::p,.loop a=>TJ p a
 | .d::p,.rangeFunc _ _ _ b=>TJ p b
 | _,c=>c
def aPD (f:FuncId) (p:List Dir):Code:=match P.funcs[f]? with
 | some fn=>match fn.body with
  | some c=>TJ p c
  | none=> .skip
 | none=> .skip
def EE (f:FuncId) (p:List Dir):List Tmp:=match aPD P f p with | .rangeFunc _ ps _ _=>ps.toList | _=>[]
def EG (f:FuncId) (p:List Dir):Code:=match aPD P f p with | .rangeFunc _ _ as _=>as | _=> .skip
def yX (f:FuncId) (p:List Dir):Code:=match aPD P f p with | .rangeFunc _ _ _ bo=>bo | _=> .skip
end
structure FB (B:Nat->Prop) (S S':St) (B':Nat->Prop):Prop where
 n:S.n<=S'.n
 same:∀i,i<S.n->¬B i->S'.obj i=S.obj i
 sub:∀i,B' i->B i\/S.n<=i
theorem FB.trans{B B1 B2:Nat->Prop}{S S1 S2:St} (h:FB B S S1 B1) (k:FB B1 S1 S2 B2):FB B S S2 B2:=by
 refine⟨zR h.n k.n,fun i hi hb=>?_,fun i hi=>?_⟩
 ·rw [k.same i (DJ hi h.n) (fun Dv=>?_),h.same i hi hb]
  rcases h.sub i Dv with h1 | h1
  ·exact hb h1
  ·omega
 ·rcases k.sub i hi with h1 | h1
  ·exact h.sub i h1
  ·exact .inr (zR h.n h1)
theorem FB.refl (B:Nat->Prop) (S:St):FB B S S B:=⟨bO _,fun _ _ _=>rfl,fun _ h=> .inl h⟩
inductive It where
 | num
 | kind
 | int
 | is
 | text
 | Ip
 | list (its:List It)
def wIt:It->Nat
 | .num | .int=>8
 | .kind | .is=>1
 | .text=>16
 | .Ip | .list _=>24
def aDB (l:List It):Nat:=(l.map wIt).foldr (· + ·) 0
inductive D where
 | n (z:Int)
 | b (v:Bool)
 | s (l:List UInt8)
 | l (es:List (List D))
def Wr (c:CK):Prop:=c= .rs\/c= .exact\/∃l,c= .grown l
inductive Rd (S:St) (C:Nat->Prop):It->Value->D->Prop where
 | num {z:Nat} (h:z<18446744073709551616):Rd S C .num (.int .u64 (.ofNat z)) (.n z)
 | kind {z:Nat} (h:z<256):Rd S C .kind (.int .u8 (.ofNat z)) (.n z)
 | int {z:Int} (h1: -9223372036854775808<=z) (h2:z<9223372036854775808):Rd S C .int (.int .i64 z) (.n z)
 | is {v:Bool}:Rd S C .is (.bool v) (.b v)
 | text {l:List UInt8} (h:l.length<=140737488355328):Rd S C .text (.string ⟨⟨l⟩⟩) (.s l)
 | Ip {v:Value} {es:List (List D)} (h:Rd S C (.list [.num]) v (.l es)):Rd S C .Ip v (.l es)
 | empty {its:List It}:Rd S C (.list its) (.slice none 0 0) (.l [])
 | Zi {its:List It} {b o s:Nat}:Rd S C (.list its) (.slice (some ⟨b,o,some (s+2)⟩) 0 0) (.l [])
 | row {its:List It} {b o n c:Nat} {sp:Option Nat} {vs:List Value} {e:TypeId} {ck:CK} {es:List (List D)} (AW:To sp=true) (hb:b<S.n) (hC:¬C b) (ho:S.obj b=some (.cells vs e ck)) (hw:Wr ck)
  (hn:es.length=n) (hl:o+n*its.length<=vs.length) (hd:∀ds∈es,ds.length=its.length) (hN:n<=140737488355328/\n*aDB its<=140737488355328) (hnc:n<=c)
  (hr:∀(k:Nat) (ds:List D) (j:Nat) (it:It) (v:Value) (d:D),es[k]? =some ds->its[j]? =some it->vs[o+k*its.length+j]? =some v->ds[j]? =some d->Rd S C it v d):Rd S C (.list its) (.slice (some ⟨b,o,sp⟩) n c) (.l es)
theorem Rd.fr{S S':St}{C C':Nat->Prop} (f:FB C S S' C'){it:It}{v:Value}{d:D} (h:Rd S C it v d):Rd S' C' it v d:=by
 induction h with
 | num h=>exact .num h
 | kind h=>exact .kind h
 | int h1 h2=>exact .int h1 h2
 | is=>exact .is
 | text h=>exact .text h
 | Ip _ ih=>exact .Ip ih
 | empty=>exact .empty
 | Zi=>exact .Zi
 | row AW hb hC ho hw hn hl hd hN hnc _ ih=>
  refine .row AW (DJ hb f.n) (fun h=>?_) (by rw [f.same _ hb hC];exact ho) hw hn hl hd hN hnc ih;rcases f.sub _ h with h | h
  ·exact hC h
  ·omega
theorem Rd.aBN{S:St}{C:Nat->Prop}{v:Value}{d:D} (h:Rd S C .kind v d):∃z:Nat,v= .int .u8 (.ofNat z)/\d= .n z/\z<256:=by
 cases h with | kind h=>exact⟨_,rfl,rfl,h⟩
theorem Rd.Zj{S:St}{C:Nat->Prop}{v:Value}{d:D} (h:Rd S C .int v d):∃z:Int,v= .int .i64 z/\d= .n z/\ -9223372036854775808<=z/\z<9223372036854775808:=by
 cases h with | int h1 h2=>exact⟨_,rfl,rfl,h1,h2⟩
structure ST (S S':St):Prop where
 n:S.n<=S'.n
 same:∀i,i<S.n->S'.obj i=S.obj i
theorem ST.fr{S S':St} (h:ST S S') (B:Nat->Prop):FB B S S' B:=⟨h.n,fun i hi _=>h.same i hi,fun _ hi=> .inl hi⟩
theorem ST.refl (S:St):ST S S:=⟨bO _,fun _ _=>rfl⟩
structure RdA (S:St) (C:Nat->Prop) (its:List It) (cs:List Value) (ds:List D):Prop where
 len:cs.length=its.length
 Zh:ds.length=its.length
 rd:∀(j:Nat) (it:It) (v:Value) (d:D),its[j]? =some it->cs[j]? =some v->ds[j]? =some d->Rd S C it v d
theorem RdA.fr{S S':St}{C C':Nat->Prop}{its:List It}{cs:List Value}{ds:List D} (h:RdA S C its cs ds) (f:FB C S S' C'):RdA S' C' its cs ds:=⟨h.len,h.Zh,fun j it v d a b c=>(h.rd j it v d a b c).fr f⟩
theorem ST.trans{a b c:St} (h:ST a b) (k:ST b c):ST a c:=⟨zR h.n k.n,fun i hi=>by rw [k.same i (DJ hi h.n),h.same i hi]⟩
theorem ST.new (S:St) (o:jD):ST S (S.new o):=⟨RR _,fun _i hi=>iG (Nat.ne_of_lt hi)⟩
structure Cx where
 Z:Nat->Option Nat
 G:Nat->Nat->Option Value
 Yz:Nat->Option Value
 n0:Nat
structure Cx.le0 (c d:Cx):Prop where
 Z:∀i b,c.Z i=some b->d.Z i=some b
 G:∀i n v,c.G i n=some v->d.G i n=some v
 Yz:∀k v,c.Yz k=some v->d.Yz k=some v
structure Cx.le (c d:Cx):Prop where
 Z:∀i b,c.Z i=some b->d.Z i=some b
 G:∀i n v,c.G i n=some v->d.G i n=some v
 Yz:∀k v,c.Yz k=some v->d.Yz k=some v
 n0:d.n0=c.n0
theorem Cx.le.refl (c:Cx):c.le c:=⟨fun _ _ h=>h,fun _ _ _ h=>h,fun _ _ h=>h,rfl⟩
theorem Cx.le.trans{a b c:Cx} (h:a.le b) (k:b.le c):a.le c:=⟨fun i b e=>k.Z i b (h.Z i b e),fun i n v e=>k.G i n v (h.G i n v e),fun i v e=>k.Yz i v (h.Yz i v e),k.n0.trans h.n0⟩
theorem Cx.le.to0{a b:Cx} (h:a.le b):a.le0 b:=⟨h.Z,h.G,h.Yz⟩
structure Fc (C:Nat->Prop) (S S':St) (C':Nat->Prop):Prop where
 n:S.n<=S'.n
 same:∀b,b<S.n->¬C b->∀vs e ck,S.obj b=some (.cells vs e ck)->S'.obj b=some (.cells vs e ck)
 sub:∀b,C' b->C b\/S.n<=b
theorem Fc.of{C C':Nat->Prop}{S S':St} (f:FB C S S' C'):Fc C S S' C':=⟨f.n,fun b h1 h2 _ _ _ e=>by rw [f.same b h1 h2];exact e,f.sub⟩
inductive ZI (S:St) (C:Nat->Prop):Dt->Value->Prop
 | int {k:IntKind} {z:Int}:ZI S C (.int k z) (.int k z)
 | bool {b:Bool}:ZI S C (.bool b) (.bool b)
 | str {l:List UInt8}:ZI S C (.str l) (.string ⟨⟨l⟩⟩)
 | nil:ZI S C (.list [] 0) (.slice none 0 0)
 | emp {b o s:Nat}:ZI S C (.list [] 0) (.slice (some ⟨b,o,some (s+2)⟩) 0 0)
 | row {b o n c:Nat} {sp:Option Nat} {vs:List Value} {e:TypeId} {ck:CK} {cs:List Dt} (AW:To sp=true) (hb:b<S.n) (hC:¬C b) (ho:S.obj b=some (.cells vs e ck)) (hl:o+cs.length<=vs.length) (hn:n<=c)
  (hr:∀(j:Nat) (d:Dt) (v:Value),cs[j]? =some d->vs[o+j]? =some v->ZI S C d v):ZI S C (.list cs n) (.slice (some ⟨b,o,sp⟩) n c)
inductive QX (c:Cx) (S:St) (C:Nat->Prop):Tag->Value->Prop
 | root {k:Nat} {w:Value} (h:c.Yz k=some w):QX c S C (.root k) w
 | sub {O:Tag} {b o n cc k:Nat} {sp:Option Nat} {vs:List Value} {e:TypeId} {ck:CK} {w:Value} (h:QX c S C O (.slice (some ⟨b,o,sp⟩) n cc)) (hb:b<S.n) (hC:¬C b) (ho:S.obj b=some (.cells vs e ck)) (hv:vs[o+k]? =some w):QX c S C (.sub O k) w
 | cut {O:Tag} {b o n cc d k q:Nat} {sp:Option Nat} (h:QX c S C O (.slice (some ⟨b,o,sp⟩) n cc)):QX c S C (.cut O d k q) (.slice (some ⟨b,o+d,none⟩) k q)
inductive fO (c:Cx) (S:St) (C:Nat->Prop):V->Value->Prop
 | int {k:IntKind} {z:Int}:fO c S C (.int k z) (.int k z)
 | bool {b:Bool}:fO c S C (.bool b) (.bool b)
 | str {l:List UInt8}:fO c S C (.str l) (.string ⟨⟨l⟩⟩)
 | list {O:Tag} {cs:List Dt} {n:Nat} {w:Value} (ht:QX c S C O w) (hd:ZI S C (.list cs n) w):fO c S C (.list O cs n) w
 | nU {O:Tag} {cs:List Dt} {b o n cc k:Nat} {sp:Option Nat} (ht:QX c S C O (.slice (some ⟨b,o,sp⟩) n cc)) (hd:ZI S C (.list cs n) (.slice (some ⟨b,o,sp⟩) n cc)):fO c S C (.nU O cs k) (.pointer (some ⟨b,o+k,none⟩))
 | nil:fO c S C .nil (.slice none 0 0)
 | acc {i n:Nat} {w:Value} (h:c.G i n=some w):fO c S C (.acc i n) w
 | IN {i n o k cc b:Nat} (h:c.G i n=some (.slice (some ⟨b,0,some 0⟩) n n)):fO c S C (.IN i n o k cc) (.slice (some ⟨b,o,some 0⟩) k cc)
 | aKl {i n b:Nat} (h:c.G i n=some (.slice (some ⟨b,0,some 0⟩) n n)):fO c S C (.emp i n) (.slice (some ⟨b,0,some 1⟩) 0 0)
 | wM {i n o b:Nat} (h:c.G i n=some (.slice (some ⟨b,0,some 0⟩) n n)):fO c S C (.wM i n o) (.pointer (some ⟨b,o,none⟩))
 | own {i o n m b:Nat} (h:c.Z i=some b):fO c S C (.own i o n m) (.slice (some ⟨b,o,none⟩) n m)
 | ptr {i o b:Nat} (h:c.Z i=some b):fO c S C (.ptr i o) (.pointer (some ⟨b,o,none⟩))
 | Ma:fO c S C .Ma (.pointer none)
 | Uv:fO c S C .Uv .nilIface
 | yZ {i b:Nat} (h:c.Z i=some b):fO c S C (.yZ i) (.map (some b))
 | Ri:fO c S C .Ri (.map none)
 | Je:fO c S C .Je .nilFunc
 | yield {l b:Nat} (h:c.Z l=some b):fO c S C (.yield l) (.func (.yield b) ⟨[]⟩ ⟨[]⟩)
 | func {f:FuncId} {a d:List V} {a' d':List Value} (la:a.length=a'.length) (ld:d.length=d'.length) (ha:∀(k:Nat) (v:V) (w:Value),a[k]? =some v->a'[k]? =some w->fO c S C v w) (hd:∀(k:Nat) (v:V) (w:Value),d[k]? =some v->d'[k]? =some w->fO c S C v w):fO c S C (.func f a d) (.func (.func f) ⟨a'⟩ ⟨d'⟩)
 | LC {s:String} {v:V} {w:Value} (h:fO c S C v w):fO c S C (.LC s v) (.func (.method s) ⟨[w]⟩ ⟨[]⟩)
 | iface {t:TypeId} {v:V} {w:Value} (h:fO c S C v w):fO c S C (.iface t v) (.iface t w)
 | agg {a:List V} {a':List Value} (la:a.length=a'.length) (ha:∀(k:Nat) (v:V) (w:Value),a[k]? =some v->a'[k]? =some w->fO c S C v w):fO c S C (.agg a) (.agg ⟨a'⟩)
 | tuple {a:List V} {a':List Value} (la:a.length=a'.length) (ha:∀(k:Nat) (v:V) (w:Value),a[k]? =some v->a'[k]? =some w->fO c S C v w):fO c S C (.tuple a) (.tuple ⟨a'⟩)
structure mA (c:Cx) (S:St) (C:Nat->Prop) (a:List V) (a':List Value):Prop where
 len:a.length=a'.length
 rd:∀(k:Nat) (v:V) (w:Value),a[k]? =some v->a'[k]? =some w->fO c S C v w
section
variable{S S':St}{C C':Nat->Prop}{c d:Cx}
theorem ZI.uI (f:Fc C S S' C'){x:Dt}{v:Value} (h:ZI S C x v):ZI S' C' x v:=by
 induction h with
 | int=>exact .int
 | bool=>exact .bool
 | str=>exact .str
 | nil=>exact .nil
 | emp=>exact .emp
 | row AW hb hC ho hl hn _ ih=>
  refine .row AW (DJ hb f.n) (fun h=>?_) (f.same _ hb hC _ _ _ ho) hl hn ih;rcases f.sub _ h with h | h
  ·exact hC h
  ·omega
theorem QX.uI (l:c.le0 d) (f:Fc C S S' C'){O:Tag}{v:Value} (h:QX c S C O v):QX d S' C' O v:=by
 induction h with
 | root h=>exact .root (l.Yz _ _ h)
 | cut _ ih=>exact .cut ih
 | sub _ hb hC ho hv ih=>
  refine .sub ih (DJ hb f.n) (fun h=>?_) (f.same _ hb hC _ _ _ ho) hv;rcases f.sub _ h with h | h
  ·exact hC h
  ·omega
theorem fO.uI (l:c.le0 d) (f:Fc C S S' C'){x:V}{v:Value} (h:fO c S C x v):fO d S' C' x v:=by
 induction h with
 | int=>exact .int
 | bool=>exact .bool
 | str=>exact .str
 | list ht hd=>exact .list (ht.uI l f) (hd.uI f)
 | nU ht hd=>exact .nU (ht.uI l f) (hd.uI f)
 | nil=>exact .nil
 | acc h=>exact .acc (l.G _ _ _ h)
 | wM h=>exact .wM (l.G _ _ _ h)
 | IN h=>exact .IN (l.G _ _ _ h)
 | aKl h=>exact .aKl (l.G _ _ _ h)
 | own h=>exact .own (l.Z _ _ h)
 | ptr h=>exact .ptr (l.Z _ _ h)
 | Ma=>exact .Ma
 | Uv=>exact .Uv
 | yZ h=>exact .yZ (l.Z _ _ h)
 | Ri=>exact .Ri
 | Je=>exact .Je
 | yield h=>exact .yield (l.Z _ _ h)
 | func la ld _ _ i1 i2=>exact .func la ld i1 i2
 | LC _ ih=>exact .LC ih
 | iface _ ih=>exact .iface ih
 | agg la _ ih=>exact .agg la ih
 | tuple la _ ih=>exact .tuple la ih
theorem ZI.mono (f:FB C S S' C'){x:Dt}{v:Value} (h:ZI S C x v):ZI S' C' x v:=h.uI (.of f)
theorem fO.mono (l:c.le d) (f:FB C S S' C'){x:V}{v:Value} (h:fO c S C x v):fO d S' C' x v:=h.uI l.to0 (.of f)
theorem mA.uI (l:c.le0 d) (f:Fc C S S' C'){x:List V}{v:List Value} (h:mA c S C x v):mA d S' C' x v:=⟨h.len,fun k a b p q=>(h.rd k a b p q).uI l f⟩
theorem mA.mono (l:c.le d) (f:FB C S S' C'){x:List V}{v:List Value} (h:mA c S C x v):mA d S' C' x v:=⟨h.len,fun k a b p q=>(h.rd k a b p q).mono l f⟩
theorem QX.fn{O:Tag}{v:Value} (h:QX c S C O v):∀{w:Value},QX c S C O w->v=w:=by
 induction h with
 | root h=>
  intro w k;cases k with | root k=>rw [h]at k;injection k
 | cut _ ih=>
  intro w k;cases k with
  | cut h2=>
   have:=ih h2;injection this with e1 e2 e3;injection e1 with e1;injection e1 with e4 e5 e6;subst e4 e5;rfl
 | sub _ hb hC ho hv ih=>
  intro w k;cases k with
  | sub h2 NN hC2 BU hv2=>
   have:=ih h2;injection this with e1 e2 e3;injection e1 with e1;injection e1 with e4 e5 e6;subst e4 e5;rw [ho]at BU;injection BU with BU;injection BU with BU;subst BU;rw [hv]at hv2;injection hv2
theorem ZJ{a:List V}{x y:List Value} (hx:a.length=x.length) (hy:a.length=y.length) (h:∀(k:Nat) (v:V) (w:Value),a[k]? =some v->x[k]? =some w->∀{u:Value},fO c S C v u->w=u) (k:∀(k:Nat) (v:V) (w:Value),a[k]? =some v->y[k]? =some w->fO c S C v w):x=y:=by
 refine List.ext_getElem (by omega) fun i a1 a2=>?_;exact h i _ _ (aQ (by omega)) (aQ a1) (k i _ _ (aQ (by omega)) (aQ a2))
theorem fO.fn{x:V}{v:Value} (h:fO c S C x v):∀{w:Value},fO c S C x w->v=w:=by
 induction h with
 | int=>intro w k;cases k;rfl
 | bool=>intro w k;cases k;rfl
 | str=>intro w k;cases k;rfl
 | list ht _=>intro w k;cases k with | list Ti _=>exact ht.fn Ti
 | nU ht _=>
  intro w k;cases k with
  | nU Ti _=>
   have:=ht.fn Ti;injection this with e1 e2 e3;injection e1 with e1;injection e1 with e4 e5 e6;subst e4 e5;rfl
 | nil=>intro w k;cases k;rfl
 | acc h=>intro w k;cases k with | acc k=>rw [h]at k;injection k
 | IN h=>
  intro w k;cases k with
  | IN k=>
   rw [h]at k;injection k with k;injection k with e1 e2 e3;injection e1 with e1;injection e1 with e4 e5 e6;subst e4;rfl
 | aKl h=>
  intro w k;cases k with
  | aKl k=>
   rw [h]at k;injection k with k;injection k with e1 e2 e3;injection e1 with e1;injection e1 with e4 e5 e6;subst e4;rfl
 | wM h=>
  intro w k;cases k with
  | wM k=>
   rw [h]at k;injection k with k;injection k with e1 e2 e3;injection e1 with e1;injection e1 with e4 e5 e6;subst e4;rfl
 | own h=>intro w k;cases k with | own k=>rw [h]at k;injection k with k;subst k;rfl
 | ptr h=>intro w k;cases k with | ptr k=>rw [h]at k;injection k with k;subst k;rfl
 | Ma=>intro w k;cases k;rfl
 | Uv=>intro w k;cases k;rfl
 | Ri=>intro w k;cases k;rfl
 | yZ h=>intro w k;cases k with | yZ k=>rw [h]at k;injection k with k;subst k;rfl
 | Je=>intro w k;cases k;rfl
 | yield h=>intro w k;cases k with | yield k=>rw [h]at k;injection k with k;subst k;rfl
 | func la ld _ _ i1 i2=>
  intro w k;cases k with
  | func la2 ld2 k1 k2=>rw [ZJ la la2 (fun k v w p q u=>i1 k v w p q) k1,ZJ ld ld2 (fun k v w p q u=>i2 k v w p q) k2]
 | LC _ ih=>intro w k;cases k with | LC k=>rw [ih k]
 | iface _ ih=>intro w k;cases k with | iface k=>rw [ih k]
 | agg la _ ih=>intro w k;cases k with | agg la2 k=>rw [ZJ la la2 (fun k v w p q u=>ih k v w p q) k]
 | tuple la _ ih=>intro w k;cases k with | tuple la2 k=>rw [ZJ la la2 (fun k v w p q u=>ih k v w p q) k]
theorem mA.nil:mA c S C [] []:=⟨rfl,fun k v w a=>by simp at a⟩
theorem mA.cons{v:V}{w:Value}{l:List V}{m:List Value} (h:fO c S C v w) (k:mA c S C l m):mA c S C (v::l) (w::m):=by
 refine⟨by simp [k.len],fun j x y a b=>?_⟩;cases j with
 | zero=>simp at a b;subst a b;exact h
 | succ j=>simp at a b;exact k.rd j x y a b
theorem mA.sB{m:List Value} (h:mA c S C [] m):m=[]:=sO (by simpa using h.len.symm)
theorem mA.cons_inv{v:V}{l:List V}{m:List Value} (h:mA c S C (v::l) m):∃w m',m=w::m'/\fO c S C v w/\mA c S C l m':=by
 cases m with
 | nil=>have:=h.len;simp at this
 | cons w m=>exact⟨w,m,rfl,h.rd 0 v w rfl rfl,by simpa using h.len,fun k x y a b=>h.rd (k+1) x y (by simpa using a) (by simpa using b)⟩
theorem mA.app{l l2:List V}{m m2:List Value} (h:mA c S C l m) (k:mA c S C l2 m2):mA c S C (l++l2) (m++m2):=by
 refine⟨by simp [h.len,k.len],fun j x y a b=>?_⟩;have hl:=h.len;by_cases hj:j<l.length
 ·rw [gV hj]at a
  rw [gV (by omega)]at b;exact h.rd j x y a b
 ·rw [kQ (by omega)]at a b
  exact k.rd _ x y a (by rw [hl];exact b)
theorem mA.take{l:List V}{m:List Value} (h:mA c S C l m) (n:Nat):mA c S C (l.take n) (m.take n):=by
 refine⟨by simp [h.len],fun j x y a b=>?_⟩;rw [sR]at a b;split at a
 ·rename_i hj;rw [aK hj]at b;exact h.rd j x y a b
 ·cases a
theorem mA.drop{l:List V}{m:List Value} (h:mA c S C l m) (n:Nat):mA c S C (l.drop n) (m.drop n):=by
 refine⟨by simp [h.len],fun j x y a b=>?_⟩;rw [rH]at a b;exact h.rd _ x y a b
theorem mA.aY{l n:List V}{m n':List Value} (h:mA c S C l m) (k:mA c S C n n') (o:Nat):mA c S C (Am.aY o n l) (Am.aY o n' m):=by
 unfold Am.aY;rw [<-k.len];exact((h.take o).app k).app (h.drop _)
theorem mA.get{l:List V}{m:List Value} (h:mA c S C l m){k:Nat}{v:V} (hv:l[k]? =some v):∃w,m[k]? =some w/\fO c S C v w:=by
 have hk:k<m.length:=by rw [<-h.len];exact(dK.1 hv).1
 exact⟨m[k],aQ hk,h.rd k v _ hv (aQ hk)⟩
theorem mA.flatten{l:List V}{m:List Value} (h:mA c S C l m) (n:Nat):mA c S C (List.replicate n l).flatten (List.replicate n m).flatten:=by
 induction n with
 | zero=>exact .nil
 | succ n ih=>simp only [IQ,OT];exact h.app ih
theorem aCp{v:Value}{x:V} (h:ofV v=some x):bW v=true:=by
 unfold ofV at h;split at h<;>first | rfl | cases h
theorem aKm{v:Value}{x:V} (h:ofV v=some x):fO c S C x v:=by
 unfold ofV at h;split at h<;>first | (injection h with h;subst h;first | exact .int | exact .bool | exact .str | exact .Ma | exact .nil | exact .Uv | exact .Je | exact .Ri) | cases h
theorem ZK:∀{z:List Value} {l:List V},LR z=some l->mA c S C l z:=by
 intro z;induction z with
 | nil=>intro l h;simp [LR]at h;subst h;exact .nil
 | cons v z ih=>
  intro l h;unfold LR at h;split at h
  ·rename_i x hx
   split at h
   ·rename_i xs hxs
    injection h with h;subst h;exact .cons (aKm hx) (ih hxs)
   ·cases h
  ·cases h
end
theorem aPE{c:Cx}{S:St}{C:Nat->Prop}{O:Tag}{d:Dt}{w:Value} (h:ZI S C d w) (ht:QX c S C O w):fO c S C (T O d) w:=by
 cases h with
 | int=>exact .int
 | bool=>exact .bool
 | str=>exact .str
 | nil=>exact .list ht .nil
 | emp=>exact .list ht .emp
 | row a b e f g i j=>exact .list ht (.row a b e f g i j)
def MG (es:List MapEntry) (ck:Nat):Prop:=(es.map (·.born)).Pairwise (· < ·)/\∀e∈es,e.born<ck
theorem MG.app{es:List MapEntry}{ck:Nat} (b:MG es ck){e:MapEntry} (he:e.born=ck):MG (es++[e]) (ck+1):=by
 refine⟨?_,fun x hx=>?_⟩
 ·rw [RQ,List.pairwise_append]
  refine⟨b.1,by simp,fun x hx y hy=>?_⟩;obtain⟨z,hz,rfl⟩:=kS.1 hx;simp at hy;subst hy;rw [he];exact b.2 z hz
 ·rcases BM.1 hx with hx | hx
  ·have:=b.2 x hx;omega
  ·simp at hx;subst hx;omega
theorem MG.set{es:List MapEntry}{ck:Nat} (b:MG es ck){j:Nat}{e e2:MapEntry} (hj:es[j]? =some e) (he:e2.born=e.born):MG (es.set j e2) ck:=by
 have hm:(es.set j e2).map (·.born)=es.map (·.born):=by
  apply xQ;intro k;rw [dJ,dJ,Of];split
  ·rename_i h;subst h
   have hlt:=(dK.1 hj).1;rw [aK hlt,hj];simp [he]
  ·rfl
 refine⟨by rw [hm];exact b.1,fun x hx=>?_⟩;obtain⟨k,hk⟩:=Bt hx;have h1:((es.set j e2).map (·.born))[k]? =some x.born:=by rw [dJ,hk];rfl
 rw [hm,dJ]at h1;cases hq:es[k]? with
 | none=>rw [hq]at h1;cases h1
 | some y=>
  rw [hq]at h1;simp at h1;rw [<-h1];exact b.2 y (BJ hq)
def ObR (c:Cx) (S:St) (C:Nat->Prop) (o:Ob) (a:jD):Prop:=match o with
 | .row vs t=>∃ws,a= .cells ws t .exact/\mA c S C vs ws
 | .gD _ _ _=>False
 | .map es=>∃jT clock,a= .map jT clock/\MG jT clock/\es.length=jT.length/\∀(k:Nat) (x:V×V) (y:MapEntry),es[k]? =some x->jT[k]? =some y->fO c S C x.1 y.key/\fO c S C x.2 y.val
 | .wS es bs ck=>∃jT,a= .map jT ck/\jT.map (·.born)=bs/\MG jT ck/\es.length=jT.length/\∀(k:Nat) (x:V×V) (y:MapEntry),es[k]? =some x->jT[k]? =some y->fO c S C x.1 y.key/\fO c S C x.2 y.val
 | .iter m since seen last=>∃r,a= .iter (some r) since seen last/\c.Z m=some r
 | .loop ls vs n ps as bo st pe=>∃T,a= .loop T ps as bo st pe/\n=T.n/\vs.length=ls.length/\∀(j i:Nat) (v:V),ls[j]? =some i->vs[j]? =some v->∃w,T.t.get i=some w/\fO c S C v w
theorem ObR.uI{c d:Cx}{S S':St}{C C':Nat->Prop} (l:c.le0 d) (f:Fc C S S' C'){o:Ob}{a:jD} (h:ObR c S C o a):ObR d S' C' o a:=by
 cases o with
 | row vs t=>obtain⟨ws,e,r⟩:=h;exact⟨ws,e,r.uI l f⟩
 | gD=>exact h
 | map es=>
  obtain⟨jT,k,e,hb,hl,r⟩:=h;exact⟨jT,k,e,hb,hl,fun i x y p q=>⟨(r i x y p q).1.uI l f,(r i x y p q).2.uI l f⟩⟩
 | wS es bs ck=>
  obtain⟨jT,e,hbs,hb,hl,r⟩:=h;exact⟨jT,e,hbs,hb,hl,fun i x y p q=>⟨(r i x y p q).1.uI l f,(r i x y p q).2.uI l f⟩⟩
 | iter m since seen last=>
  obtain⟨r,e,q⟩:=h;exact⟨r,e,l.Z _ _ q⟩
 | loop ls vs n ps as bo st pe=>
  obtain⟨T,e,hn,q,r⟩:=h;exact⟨T,e,hn,q,fun j i v p p2=>let⟨w,a,b⟩:=r j i v p p2;⟨w,a,b.uI l f⟩⟩
theorem ObR.mono{c d:Cx}{S S':St}{C C':Nat->Prop} (l:c.le d) (f:FB C S S' C'){o:Ob}{a:jD} (h:ObR c S C o a):ObR d S' C' o a:=h.uI l.to0 (.of f)
def uJ (c:Cx) (h:Hp) (i b:Nat):Prop:=(∃o,h i=some o/\Rj o=false/\c.Z i=some b)\/∃vs t n m,h i=some (.gD vs t n)/\c.G i m=some (.slice (some ⟨b,0,some 0⟩) m m)
section
variable (P:Program) (B:Nat->Prop) (Sb:St)
def dN (c:Cx) (h:Hp):Nat->Prop:=fun b=>B b\/∃i,uJ c h i b
structure VS (c:Cx) (h:Hp) (S:St):Prop where
 base:ST Sb S
 bB:∀b,B b->b<Sb.n
 ob:∀i o,h i=some o->Rj o=false->∃b a,c.Z i=some b/\Sb.n<=b/\b<S.n/\S.obj b=some a/\ObR c S (dN B c h) o a
 gD:∀i vs t n,h i=some (.gD vs t n)->∃b ws olds sz,c.G i n=some (.slice (some ⟨b,0,some 0⟩) n n)/\Sb.n<=b/\b<S.n/\S.obj b=some (.cells ws t (.grown olds))/\mA c S (dN B c h) vs ws/\cQ P t=some sz/\vs.length=n*sz/\∀m,n<m->c.G i m=none
 inj:∀i j b,uJ c h i b->uJ c h j b->i=j
 Gs:∀i n w,c.G i n=some w->∃b,w= .slice (some ⟨b,0,some 0⟩) n n
 room:∃N,∀i,N<=i->h i=none/\c.Z i=none/\∀n,c.G i n=none
 YE:∃M,∀k,M<=k->c.Yz k=none
 Gb:∀i vs t n m b,h i=some (.gD vs t n)->c.G i m=some (.slice (some ⟨b,0,some 0⟩) m m)->Sb.n<=b/\b<S.n
 old:∀i vs t n b ws e olds,h i=some (.gD vs t n)->c.G i n=some (.slice (some ⟨b,0,some 0⟩) n n)->S.obj b=some (.cells ws e (.grown olds))->∀x∈olds,∃m,c.G i m=some (.slice (some ⟨x,0,some 0⟩) m m)
end
section
variable{P:Program}{B:Nat->Prop}{Sb:St}{c d:Cx}{h h':Hp}{S S':St}
theorem VS.row (s:VS P B Sb c h S) (i:Nat) (vs:List V) (t:TypeId) (e:h i=some (.row vs t)):∃b ws,c.Z i=some b/\Sb.n<=b/\b<S.n/\S.obj b=some (.cells ws t .exact)/\mA c S (dN B c h) vs ws:=by
 obtain⟨b,a,a1,a2,a3,a4,ws,rfl,a5⟩:=s.ob i _ e rfl;exact⟨b,ws,a1,a2,a3,a4,a5⟩
theorem VS.bd (s:VS P B Sb c h S){i b:Nat} (l:uJ c h i b):Sb.n<=b/\b<S.n:=by
 rcases l with ⟨o,e1,eg,e2⟩ | ⟨vs,t,n,m,e1,e2⟩
 ·obtain⟨b',ws,a1,a2,a3,_⟩:=s.ob i o e1 eg
  rw [e2]at a1;injection a1 with a1;subst a1;exact⟨a2,a3⟩
 ·exact s.Gb i vs t n m b e1 e2
theorem VS.fresh (s:VS P B Sb c h S):∃i,h i=none/\c.Z i=none/\∀n,c.G i n=none:=by
 obtain⟨N,hN⟩:=s.room;exact⟨N,hN N (bO _)⟩
theorem VS.aHw (s:VS P B Sb c h S){b:Nat} (l:dN B c h b):b<S.n:=by
 rcases l with l | ⟨i,l⟩
 ·exact DJ (s.bB b l) s.base.n
 ·exact(s.bd l).2
def Cx.putZ (c:Cx) (i b:Nat):Cx:=⟨fun j=>if j=i then some b else c.Z j,c.G,c.Yz,c.n0⟩
def Cx.putG (c:Cx) (i n:Nat) (w:Value):Cx:=⟨c.Z,fun j m=>if j=i/\m=n then some w else c.G j m,c.Yz,c.n0⟩
theorem Cx.putZ_le{i b:Nat} (hi:c.Z i=none):c.le (c.putZ i b):=by
 refine⟨fun j x e=>?_,fun _ _ _ e=>e,fun _ _ e=>e,rfl⟩;show(if j=i then some b else c.Z j)=some x;rw [aG (fun e2=>by subst e2;rw [hi]at e;cases e)];exact e
theorem Cx.putG_le{i n:Nat}{w:Value} (hi:c.G i n=none):c.le (c.putG i n w):=by
 refine⟨fun _ _ e=>e,fun j m x e=>?_,fun _ _ e=>e,rfl⟩;show(if j=i/\m=n then some w else c.G j m)=some x;rw [aG (fun e2=>by obtain⟨rfl,rfl⟩:=e2;rw [hi]at e;cases e)];exact e
theorem aB{i:Nat}{o:Ob}:aJ h i o i=some o:=aK rfl
theorem aC{i j:Nat}{o:Ob} (e:j≠i):aJ h i o j=h j:=aG e
theorem VS.aF6 (s:VS P B Sb c h S){i:Nat} (_h0:h i=none) (h1:c.Z i=none) (_h2:∀n,c.G i n=none){o:Ob}{ao:jD} (hg:Rj o=false) (ho:∀d S' C',c.le d->FB (dN B c h) S S' C'->ObR d S' C' o ao):
 VS P B Sb (c.putZ i S.n) (aJ h i o) (S.new ao)/\c.le (c.putZ i S.n)/\FB (dN B c h) S (S.new ao) (dN B (c.putZ i S.n) (aJ h i o))/\(c.putZ i S.n).Z i=some S.n:=by
 have le:=Cx.putZ_le (c:=c) (i:=i) (b:=S.n) h1
 have Ad:∀j b,uJ (c.putZ i S.n) (aJ h i o) j b->(j=i/\b=S.n)\/(j≠i/\uJ c h j b):=by
  intro j b l;by_cases e:j=i
  ·subst e
   rcases l with ⟨o',_,_,e2⟩ | ⟨vs',t',n,m,e1,e2⟩
   ·have:(if j=j then some S.n else c.Z j)=some b:=e2
    rw [aK rfl]at this;injection this with this;exact .inl ⟨rfl,this.symm⟩
   ·rw [aB]at e1;injection e1 with e1;subst e1;cases hg
  ·refine .inr ⟨e,?_⟩
   rcases l with ⟨o',e1,eg,e2⟩ | ⟨vs',t',n,m,e1,e2⟩
   ·rw [aC e]at e1
    have e2:(if j=i then some S.n else c.Z j)=some b:=e2;rw [aG e]at e2;exact .inl ⟨o',e1,eg,e2⟩
   ·rw [aC e]at e1
    exact .inr ⟨vs',t',n,m,e1,e2⟩
 have fr:FB (dN B c h) S (S.new ao) (dN B (c.putZ i S.n) (aJ h i o)):=by
  refine⟨RR _,fun j hj _=>iG (Nat.ne_of_lt hj),fun b l=>?_⟩;rcases l with l | ⟨j,l⟩
  ·exact .inl (.inl l)
  ·rcases Ad j b l with ⟨_,e⟩ | ⟨_,l⟩
   ·exact .inr (Ce e.symm)
   ·exact .inl (.inr ⟨j,l⟩)
 refine⟨⟨s.base.trans (.new S _),s.bB,?_,?_,?_,s.Gs,?_,s.YE,?_,?_⟩,le,fr,aK rfl⟩
 ·intro j o' e eg
  by_cases e2:j=i
  ·subst e2
   rw [aB]at e;injection e with e;subst e;exact⟨S.n,ao,aK rfl,s.base.n,xR _,vM,ho _ _ _ le fr⟩
  ·rw [aC e2]at e
   obtain⟨b,a',a1,a2,a3,a4,a5⟩:=s.ob j o' e eg;exact⟨b,a',le.Z _ _ a1,a2,sS a3,by rw [iG (by omega)];exact a4,a5.mono le fr⟩
 ·intro j vs' t' n e
  have e2:j≠i:=fun e2=>by subst e2;rw [aB]at e;injection e with e;subst e;cases hg
  rw [aC e2]at e;obtain⟨b,ws',olds,sz,a1,a2,a3,a4,a5,a6⟩:=s.gD j vs' t' n e;exact⟨b,ws',olds,sz,a1,a2,sS a3,by rw [iG (by omega)];exact a4,a5.mono le fr,a6⟩
 ·intro j k b l1 l2
  rcases Ad j b l1 with ⟨e1,e2⟩ | ⟨e1,l1⟩
  ·rcases Ad k b l2 with ⟨e3,e4⟩ | ⟨e3,l2⟩
   ·rw [e1,e3]
   ·have:=(s.bd l2).2;omega
  ·rcases Ad k b l2 with ⟨e3,e4⟩ | ⟨e3,l2⟩
   ·have:=(s.bd l1).2;omega
   ·exact s.inj j k b l1 l2
 ·obtain⟨N,hN⟩:=s.room
  refine⟨max N (i+1),fun j hj=>?_⟩;obtain⟨a1,a2,a3⟩:=hN j (by omega);exact⟨by rw [aC (by omega)];exact a1,by show(if j=i then _ else c.Z j)=none;rw [aG (by omega)];exact a2,a3⟩
 ·intro j vs' t' n m b e e3
  have e2:j≠i:=fun e2=>by subst e2;rw [aB]at e;injection e with e;subst e;cases hg
  rw [aC e2]at e;obtain⟨q1,q2⟩:=s.Gb j vs' t' n m b e e3;exact⟨q1,sS q2⟩
 ·intro j vs' t' n b ws' e' olds e e3 e4
  have e2:j≠i:=fun e2=>by subst e2;rw [aB]at e;injection e with e;subst e;cases hg
  rw [aC e2]at e;rw [iG (by have:=(s.Gb j vs' t' n n b e e3).2;omega)]at e4;exact s.old j vs' t' n b ws' e' olds e e3 e4
theorem VS.newRow (s:VS P B Sb c h S){i:Nat} (h0:h i=none) (h1:c.Z i=none) (h2:∀n,c.G i n=none){vs:List V}{ws:List Value} (t:TypeId) (hv:mA c S (dN B c h) vs ws):
 VS P B Sb (c.putZ i S.n) (aJ h i (.row vs t)) (S.new (.cells ws t .exact))/\c.le (c.putZ i S.n)/\FB (dN B c h) S (S.new (.cells ws t .exact)) (dN B (c.putZ i S.n) (aJ h i (.row vs t)))/\(c.putZ i S.n).Z i=some S.n:=
 s.aF6 h0 h1 h2 (o:= .row vs t) rfl fun _ _ _ l f=>⟨ws,rfl,hv.mono l f⟩
theorem VS.Xb (s:VS P B Sb c h S){i b:Nat}{o0 o:Ob} (h0:h i=some o0) (g0:Rj o0=false) (h1:c.Z i=some b){ao:jD} (hg:Rj o=false) (ho:∀S' C',FB (dN B c h) S S' C'->ObR c S' C' o ao):
 VS P B Sb c (aJ h i o) (S.set b ao)/\FB (dN B c h) S (S.set b ao) (dN B c (aJ h i o)):=by
 have hb:uJ c h i b:= .inl ⟨o0,h0,g0,h1⟩;obtain⟨g1,g2⟩:=s.bd hb
 have Ad:∀j x,uJ c (aJ h i o) j x->uJ c h j x:=by
  intro j x l;by_cases e:j=i
  ·subst e
   rcases l with ⟨o',e1,eg,e2⟩ | ⟨vs2,t2,n,m,e1,e2⟩
   ·exact .inl ⟨o0,h0,g0,e2⟩
   ·rw [aB]at e1;injection e1 with e1;subst e1;cases hg
  ·rcases l with ⟨o',e1,eg,e2⟩ | ⟨vs2,t2,n,m,e1,e2⟩
   ·rw [aC e]at e1;exact .inl ⟨o',e1,eg,e2⟩
   ·rw [aC e]at e1;exact .inr ⟨vs2,t2,n,m,e1,e2⟩
 have fr:FB (dN B c h) S (S.set b ao) (dN B c (aJ h i o)):=by
  refine⟨bO _,fun j _ hc=>lO fun e=>hc (.inr ⟨i,e▸hb⟩),fun x l=>?_⟩;rcases l with l | ⟨j,l⟩
  ·exact .inl (.inl l)
  ·exact .inl (.inr ⟨j,Ad j x l⟩)
 refine⟨⟨⟨s.base.n,fun j hj=>?_⟩,s.bB,?_,?_,fun j k x l1 l2=>s.inj j k x (Ad j x l1) (Ad k x l2),s.Gs,?_,s.YE,?_,?_⟩,fr⟩
 ·rw [lO (by omega)];exact s.base.same j hj
 ·intro j o' e eg
  by_cases e2:j=i
  ·subst e2
   rw [aB]at e;injection e with e;subst e;exact⟨b,ao,h1,g1,g2,Zv,ho _ _ fr⟩
  ·rw [aC e2]at e
   obtain⟨x,a',a1,a2,a3,a4,a5⟩:=s.ob j o' e eg;have:x≠b:=fun e3=>e2 (s.inj j i b (.inl ⟨o',e,eg,e3▸a1⟩) hb);exact⟨x,a',a1,a2,a3,by rw [lO this];exact a4,a5.mono (.refl c) fr⟩
 ·intro j vs2 t2 n e
  have e2:j≠i:=fun e2=>by subst e2;rw [aB]at e;injection e with e;subst e;cases hg
  rw [aC e2]at e;obtain⟨x,ws2,olds,sz,a1,a2,a3,a4,a5,a6⟩:=s.gD j vs2 t2 n e;have:x≠b:=fun e3=>e2 (s.inj j i b (.inr ⟨vs2,t2,n,n,e,e3▸a1⟩) hb);exact⟨x,ws2,olds,sz,a1,a2,a3,by rw [lO this];exact a4,a5.mono (.refl c) fr,a6⟩
 ·obtain⟨N,hN⟩:=s.room
  refine⟨N,fun j hj=>?_⟩;obtain⟨a1,a2,a3⟩:=hN j hj;have:j≠i:=fun e=>by subst e;rw [h0]at a1;cases a1
  exact⟨by rw [aC this];exact a1,a2,a3⟩
 ·intro j vs2 t2 n m x e e3
  have e2:j≠i:=fun e2=>by subst e2;rw [aB]at e;injection e with e;subst e;cases hg
  rw [aC e2]at e;exact s.Gb j vs2 t2 n m x e e3
 ·intro j vs2 t2 n x ws' e' olds e e3 e4
  have e2:j≠i:=fun e2=>by subst e2;rw [aB]at e;injection e with e;subst e;cases hg
  rw [aC e2]at e;have:x≠b:=fun e5=>e2 (s.inj j i b (.inr ⟨vs2,t2,n,n,e,e5▸e3⟩) hb);rw [lO this]at e4;exact s.old j vs2 t2 n x ws' e' olds e e3 e4
theorem VS.aRw (s:VS P B Sb c h S){i b:Nat}{o0 o:Ob} (h0:h i=some o0) (g0:Rj o0=false) (h1:c.Z i=some b) (hg:Rj o=false) (ho:∀a C',S.obj b=some a->ObR c S C' o0 a->ObR c S C' o a):
 VS P B Sb c (aJ h i o) S/\dN B c (aJ h i o)=dN B c h:=by
 have Ad:∀j x,uJ c (aJ h i o) j x↔uJ c h j x:=by
  intro j x;by_cases e:j=i
  ·subst e
   constructor
   ·intro l
    rcases l with ⟨o',e1,eg,e2⟩ | ⟨vs2,t2,n,m,e1,e2⟩
    ·exact .inl ⟨o0,h0,g0,e2⟩
    ·rw [aB]at e1;injection e1 with e1;subst e1;cases hg
   ·intro l
    rcases l with ⟨o',e1,eg,e2⟩ | ⟨vs2,t2,n,m,e1,e2⟩
    ·exact .inl ⟨o,aB,hg,e2⟩
    ·rw [h0]at e1;injection e1 with e1;subst e1;cases g0
  ·constructor
   ·intro l
    rcases l with ⟨o',e1,eg,e2⟩ | ⟨vs2,t2,n,m,e1,e2⟩
    ·rw [aC e]at e1;exact .inl ⟨o',e1,eg,e2⟩
    ·rw [aC e]at e1;exact .inr ⟨vs2,t2,n,m,e1,e2⟩
   ·intro l
    rcases l with ⟨o',e1,eg,e2⟩ | ⟨vs2,t2,n,m,e1,e2⟩
    ·exact .inl ⟨o',by rw [aC e];exact e1,eg,e2⟩
    ·exact .inr ⟨vs2,t2,n,m,by rw [aC e];exact e1,e2⟩
 have hL:dN B c (aJ h i o)=dN B c h:=by
  funext x
  apply propext;constructor
  ·rintro(l | ⟨j,l⟩)
   ·exact .inl l
   ·exact .inr ⟨j,(Ad j x).1 l⟩
  ·rintro(l | ⟨j,l⟩)
   ·exact .inl l
   ·exact .inr ⟨j,(Ad j x).2 l⟩
 refine⟨⟨s.base,s.bB,?_,?_,fun j k x l1 l2=>s.inj j k x ((Ad j x).1 l1) ((Ad k x).1 l2),s.Gs,?_,s.YE,?_,?_⟩,hL⟩
 ·intro j o' e eg
  rw [hL];by_cases e2:j=i
  ·subst e2
   rw [aB]at e;injection e with e;subst e;obtain⟨b',a,a1,a2,a3,a4,a5⟩:=s.ob j o0 h0 g0;rw [h1]at a1;injection a1 with a1;subst a1;exact⟨b,a,h1,a2,a3,a4,ho _ _ a4 a5⟩
  ·rw [aC e2]at e
   exact s.ob j o' e eg
 ·intro j vs2 t2 n e
  have e2:j≠i:=fun e2=>by subst e2;rw [aB]at e;injection e with e;subst e;cases hg
  rw [aC e2]at e;rw [hL];exact s.gD j vs2 t2 n e
 ·obtain⟨N,hN⟩:=s.room
  refine⟨N,fun j hj=>?_⟩;obtain⟨a1,a2,a3⟩:=hN j hj;have:j≠i:=fun e=>by subst e;rw [h0]at a1;cases a1
  exact⟨by rw [aC this];exact a1,a2,a3⟩
 ·intro j vs2 t2 n m x e e3
  have e2:j≠i:=fun e2=>by subst e2;rw [aB]at e;injection e with e;subst e;cases hg
  rw [aC e2]at e;exact s.Gb j vs2 t2 n m x e e3
 ·intro j vs2 t2 n x ws' e' olds e e3 e4
  have e2:j≠i:=fun e2=>by subst e2;rw [aB]at e;injection e with e;subst e;cases hg
  rw [aC e2]at e;exact s.old j vs2 t2 n x ws' e' olds e e3 e4
theorem VS.setRow (s:VS P B Sb c h S){i b:Nat}{vs vs':List V}{t:TypeId} (h0:h i=some (.row vs t)) (h1:c.Z i=some b){ws':List Value} (hv:mA c S (dN B c h) vs' ws'):
 VS P B Sb c (aJ h i (.row vs' t)) (S.set b (.cells ws' t .exact))/\FB (dN B c h) S (S.set b (.cells ws' t .exact)) (dN B c (aJ h i (.row vs' t))):=
 s.Xb h0 rfl h1 (o:= .row vs' t) rfl fun _ _ f=>⟨ws',rfl,hv.mono (.refl c) f⟩
theorem VS.drop (s:VS P B Sb c h S) (l:bP h' h):VS P B Sb c h' S/\FB (dN B c h) S S (dN B c h'):=by
 have Ad:∀j x,uJ c h' j x->uJ c h j x:=by
  intro j x k;rcases k with ⟨o,e1,eg,e2⟩ | ⟨vs2,t2,n,m,e1,e2⟩
  ·exact .inl ⟨o,l _ _ e1,eg,e2⟩
  ·exact .inr ⟨vs2,t2,n,m,l _ _ e1,e2⟩
 have fr:FB (dN B c h) S S (dN B c h'):=by
  refine⟨bO _,fun _ _ _=>rfl,fun x k=>?_⟩;rcases k with k | ⟨j,k⟩
  ·exact .inl (.inl k)
  ·exact .inl (.inr ⟨j,Ad j x k⟩)
 refine⟨⟨s.base,s.bB,fun i o e eg=>?_,fun i vs t n e=>?_,fun j k x l1 l2=>s.inj j k x (Ad j x l1) (Ad k x l2),s.Gs,?_,s.YE,fun i vs t n m b e e3=>s.Gb i vs t n m b (l _ _ e) e3,fun i vs t n b ws e' olds e e3 e4=>s.old i vs t n b ws e' olds (l _ _ e) e3 e4⟩,fr⟩
 ·obtain⟨b,ws,a1,a2,a3,a4,a5⟩:=s.ob i o (l _ _ e) eg
  exact⟨b,ws,a1,a2,a3,a4,a5.mono (.refl c) fr⟩
 ·obtain⟨b,ws,olds,sz,a1,a2,a3,a4,a5,a6⟩:=s.gD i vs t n (l _ _ e)
  exact⟨b,ws,olds,sz,a1,a2,a3,a4,a5.mono (.refl c) fr,a6⟩
 ·obtain⟨N,hN⟩:=s.room
  refine⟨N,fun j hj=>?_⟩;obtain⟨a1,a2,a3⟩:=hN j hj;refine⟨?_,a2,a3⟩;cases e:h' j with
  | none=>rfl
  | some o=>rw [l _ _ e]at a1;cases a1
theorem VS.Cy (s:VS P B Sb c h S) (l:bP h' h){v:V}{x:Dt} (k:Dx h' h v x):∀{w:Value},fO c S (dN B c h) v w->ZI S (dN B c h') x w:=by
 have fr:=(s.drop l).2
 have dead:∀{i b:Nat},uJ c h i b->h' i=none->¬dN B c h' b:=by
  intro i b l1 hn l2;rcases l2 with l2 | ⟨j,l2⟩
  ·have:=s.bB b l2;have:=(s.bd l1).1;omega
  ·have l3:uJ c h j b:=by
    rcases l2 with ⟨o,e1,eg,e2⟩ | ⟨vs2,t2,n,m,e1,e2⟩
    ·exact .inl ⟨o,l _ _ e1,eg,e2⟩
    ·exact .inr ⟨vs2,t2,n,m,l _ _ e1,e2⟩
   have e:=s.inj i j b l1 l3;subst e;rcases l2 with ⟨o,e1,eg,e2⟩ | ⟨vs2,t2,n,m,e1,e2⟩<;>(rw [hn]at e1;cases e1)
 induction k with
 | int=>intro w q;cases q;exact .int
 | bool=>intro w q;cases q;exact .bool
 | str=>intro w q;cases q;exact .str
 | list=>intro w q;cases q with | list ht hd=>exact hd.mono fr
 | nil=>intro w q;cases q;exact .nil
 | @acc i n vs t cs e hn hl hr ih=>
  intro w q;cases q with
  | acc q=>
   obtain⟨b,ws,olds,sz,a1,a2,a3,a4,a5,a6⟩:=s.gD i vs t n e;rw [a1]at q;injection q with q;subst q;refine .row rfl a3 (dead (.inr ⟨vs,t,n,n,e,a1⟩) hn) a4 (by have:=a5.len;omega) (bO _) fun j x v b1 b2=>?_;rw [dX]at b2;have hj:j<vs.length:=by have:=(dK.1 b1).1;omega
   exact ih j vs[j] x (aQ hj) b1 (a5.rd j _ v (aQ hj) b2)
 | @IN i n o k cc vs t cs e hn hc hl hr ih=>
  intro w q;cases q with
  | IN q=>
   obtain⟨b,ws,olds,sz,a1,a2,a3,a4,a5,a6⟩:=s.gD i vs t n e;rw [a1]at q;injection q with q;injection q with q;injection q with q;injection q with q;subst q;refine .row rfl a3 (dead (.inr ⟨vs,t,n,n,e,a1⟩) hn) a4 (by have:=a5.len;omega) hc fun j x v b1 b2=>?_;have hj:o+j<vs.length:=by have:=(dK.1 b1).1;omega
   exact ih j vs[o+j] x (aQ hj) b1 (a5.rd (o+j) _ v (aQ hj) b2)
 | @own i o n cc vs t cs e hn hc hl hr ih=>
  intro w q;cases q with
  | own q=>
   obtain⟨b,ws,a1,a2,a3,a4,a5⟩:=s.row i vs t e;rw [a1]at q;injection q with q;subst q;refine .row rfl a3 (dead (.inl ⟨_,e,rfl,a1⟩) hn) a4 (by have:=a5.len;omega) hc fun j x v b1 b2=>?_;have hj:o+j<vs.length:=by have:=(dK.1 b1).1;omega
   exact ih j vs[o+j] x (aQ hj) b1 (a5.rd (o+j) _ v (aQ hj) b2)
theorem VS.names (s:VS P B Sb c h S) (ws:List Value):∃(d:Cx) (O:Nat->Tag),c.le d/\VS P B Sb d h S/\dN B d h=dN B c h/\∀(k:Nat) (w:Value),ws[k]? =some w->QX d S (dN B d h) (O k) w:=by
 obtain⟨M,hM⟩:=s.YE
 let d:Cx:=⟨c.Z,c.G,fun k=>if k<M then c.Yz k else ws[k-M]?,c.n0⟩
 have le:c.le d:=by
  refine⟨fun _ _ e=>e,fun _ _ _ e=>e,fun k v e=>?_,rfl⟩;show(if k<M then c.Yz k else ws[k-M]?)=some v;by_cases hk:k<M
  ·rw [aK hk];exact e
  ·rw [hM k (by omega)]at e;cases e
 have fr:FB (dN B c h) S S (dN B d h):=⟨bO _,fun _ _ _=>rfl,fun _ k=> .inl k⟩;refine⟨d,fun k=> .root (M+k),le,⟨s.base,s.bB,fun i o e eg=>?_,fun i vs t n e=>?_,s.inj,s.Gs,s.room,⟨M+ws.length,fun k hk=>?_⟩,s.Gb,s.old⟩,rfl,fun k w e=> .root ?_⟩
 ·obtain⟨b,ws,a1,a2,a3,a4,a5⟩:=s.ob i o e eg
  exact⟨b,ws,a1,a2,a3,a4,a5.mono le fr⟩
 ·obtain⟨b,ws,olds,sz,a1,a2,a3,a4,a5,a6⟩:=s.gD i vs t n e
  exact⟨b,ws,olds,sz,a1,a2,a3,a4,a5.mono le fr,a6⟩
 ·show(if k<M then c.Yz k else ws[k-M]?)=none
  rw [aG (by omega),FT (by omega)]
 ·show(if M+k<M then c.Yz (M+k)else ws[M+k-M]?)=some w
  rw [aG (by omega),aC6];exact e
theorem VS.aKn (s:VS P B Sb c h S){i:Nat} (h0:h i=none) (h1:c.Z i=none) (h2:∀n,c.G i n=none){vs:List V}{ws:List Value}{t:TypeId}{sz n:Nat} (hs:cQ P t=some sz) (hn:vs.length=n*sz) (hv:mA c S (dN B c h) vs ws):
 let w:Value:= .slice (some ⟨S.n,0,some 0⟩) n n
 VS P B Sb (c.putG i n w) (aJ h i (.gD vs t n)) (S.new (.cells ws t (.grown [])))/\c.le (c.putG i n w)/\FB (dN B c h) S (S.new (.cells ws t (.grown []))) (dN B (c.putG i n w) (aJ h i (.gD vs t n)))/\(c.putG i n w).G i n=some w:=by
 intro w;have le:=Cx.putG_le (c:=c) (i:=i) (n:=n) (w:=w) (h2 n)
 have Ad:∀j b,uJ (c.putG i n w) (aJ h i (.gD vs t n)) j b->(j=i/\b=S.n)\/(j≠i/\uJ c h j b):=by
  intro j b l;by_cases e:j=i
  ·subst e
   rcases l with ⟨o',e1,eg,e2⟩ | ⟨vs',t',n',m,e1,e2⟩
   ·rw [aB]at e1;injection e1 with e1;subst e1;cases eg
   ·have e2:(if j=j/\m=n then some w else c.G j m)=_:=e2
    by_cases hm:m=n
    ·rw [aK ⟨rfl,hm⟩]at e2
     injection e2 with e2;injection e2 with e2;injection e2 with e2;injection e2 with e2;exact .inl ⟨rfl,e2.symm⟩
    ·rw [aG (fun x=>hm x.2),h2]at e2;cases e2
  ·refine .inr ⟨e,?_⟩
   rcases l with ⟨o',e1,eg,e2⟩ | ⟨vs',t',n',m,e1,e2⟩
   ·rw [aC e]at e1
    exact .inl ⟨o',e1,eg,e2⟩
   ·rw [aC e]at e1
    have e2:(if j=i/\m=n then some w else c.G j m)=_:=e2;rw [aG (fun x=>e x.1)]at e2;exact .inr ⟨vs',t',n',m,e1,e2⟩
 have fr:FB (dN B c h) S (S.new (.cells ws t (.grown []))) (dN B (c.putG i n w) (aJ h i (.gD vs t n))):=by
  refine⟨RR _,fun j hj _=>iG (Nat.ne_of_lt hj),fun b l=>?_⟩;rcases l with l | ⟨j,l⟩
  ·exact .inl (.inl l)
  ·rcases Ad j b l with ⟨_,e⟩ | ⟨_,l⟩
   ·exact .inr (Ce e.symm)
   ·exact .inl (.inr ⟨j,l⟩)
 refine⟨⟨s.base.trans (.new S _),s.bB,?_,?_,?_,?_,?_,s.YE,?_,?_⟩,le,fr,aK ⟨rfl,rfl⟩⟩
 ·intro j o' e eg
  have e2:j≠i:=fun e2=>by subst e2;rw [aB]at e;injection e with e;subst e;cases eg
  rw [aC e2]at e;obtain⟨b,ws',a1,a2,a3,a4,a5⟩:=s.ob j o' e eg;exact⟨b,ws',a1,a2,sS a3,by rw [iG (by omega)];exact a4,a5.mono le fr⟩
 ·intro j vs' t' m e
  by_cases e2:j=i
  ·subst e2
   rw [aB]at e;injection e with e;injection e with e3 e4 e5;subst e3 e4 e5;refine⟨S.n,ws,[],sz,aK ⟨rfl,rfl⟩,s.base.n,xR _,vM,hv.mono le fr,hs,hn,fun m hm=>?_⟩;show(if j=j/\m=n then some w else c.G j m)=none;rw [aG (fun x=>by omega)];exact h2 m
  ·rw [aC e2]at e
   obtain⟨b,ws',olds,sz',a1,a2,a3,a4,a5,a6,a7,a8⟩:=s.gD j vs' t' m e;refine⟨b,ws',olds,sz',le.G _ _ _ a1,a2,sS a3,by rw [iG (by omega)];exact a4,a5.mono le fr,a6,a7,fun q hq=>?_⟩;show(if j=i/\q=n then some w else c.G j q)=none;rw [aG (fun x=>e2 x.1)];exact a8 q hq
 ·intro j k b l1 l2
  rcases Ad j b l1 with ⟨e1,e2⟩ | ⟨e1,l1⟩
  ·rcases Ad k b l2 with ⟨e3,e4⟩ | ⟨e3,l2⟩
   ·rw [e1,e3]
   ·have:=(s.bd l2).2;omega
  ·rcases Ad k b l2 with ⟨e3,e4⟩ | ⟨e3,l2⟩
   ·have:=(s.bd l1).2;omega
   ·exact s.inj j k b l1 l2
 ·intro j m u e
  have e:(if j=i/\m=n then some w else c.G j m)=some u:=e;by_cases e2:j=i/\m=n
  ·rw [aK e2]at e;injection e with e;exact⟨S.n,by rw [<-e,e2.2]⟩
  ·rw [aG e2]at e;exact s.Gs j m u e
 ·obtain⟨N,hN⟩:=s.room
  refine⟨max N (i+1),fun j hj=>?_⟩;obtain⟨a1,a2,a3⟩:=hN j (by omega);exact⟨by rw [aC (by omega)];exact a1,a2,fun m=>by show(if j=i/\m=n then some w else c.G j m)=none;rw [aG (fun x=>by omega)];exact a3 m⟩
 ·intro j vs' t' n' m b e e3
  have e3:(if j=i/\m=n then some w else c.G j m)=_:=e3;by_cases e2:j=i/\m=n
  ·rw [aK e2]at e3
   injection e3 with e3;injection e3 with e3;injection e3 with e3;injection e3 with e3;rw [<-e3];exact⟨s.base.n,xR _⟩
  ·rw [aG e2]at e3
   by_cases e4:j=i
   ·have e5:=e4▸h2 m;rw [e5]at e3;cases e3
   ·rw [aC e4]at e
    obtain⟨q1,q2⟩:=s.Gb j vs' t' n' m b e e3;exact⟨q1,sS q2⟩
 ·intro j vs' t' n' b ws' e' olds e e3 e5 x hx
  have e3:(if j=i/\n'=n then some w else c.G j n')=_:=e3;by_cases e4:j=i
  ·subst e4
   by_cases e6:n'=n
   ·rw [aK ⟨rfl,e6⟩]at e3
    injection e3 with e3;injection e3 with e3;injection e3 with e3;injection e3 with e3;rw [<-e3,vM]at e5;injection e5 with e5;injection e5 with _ _ e5;injection e5 with e5;rw [<-e5]at hx;cases hx
   ·rw [aG (fun x=>e6 x.2),h2]at e3;cases e3
  ·rw [aG (fun x=>e4 x.1)]at e3
   rw [aC e4]at e;rw [iG (by have:=(s.Gb j vs' t' n' n' b e e3).2;omega)]at e5;obtain⟨m,hm⟩:=s.old j vs' t' n' b ws' e' olds e e3 e5 x hx;exact⟨m,le.G _ _ _ hm⟩
theorem VS.aMV (s:VS P B Sb c h S){i n m b:Nat}{vs nv:List V}{t:TypeId}{sz:Nat}{ws nw:List Value}{olds:List Nat} (h0:h i=some (.gD vs t n)) (hb:c.G i n=some (.slice (some ⟨b,0,some 0⟩) n n)) (ho:S.obj b=some (.cells ws t (.grown olds))) (hs:cQ P t=some sz)
 (hn:nv.length=m*sz) (hm:0<m) (JG:vs.length=n*sz) (hvw:mA c S (dN B c h) vs ws) (hv:mA c S (dN B c h) nv nw):
 let w:Value:= .slice (some ⟨S.n,0,some 0⟩) (n+m) (n+m)
 let S':=(S.set b (.cells ws t .uT)).new (.cells (ws++nw) t (.grown (b::olds)))
 VS P B Sb (c.putG i (n+m) w) (aJ h i (.gD (vs++nv) t (n+m))) S'/\c.le (c.putG i (n+m) w)/\FB (dN B c h) S S' (dN B (c.putG i (n+m) w) (aJ h i (.gD (vs++nv) t (n+m))))/\(c.putG i (n+m) w).G i (n+m)=some w:=by
 intro w S';obtain⟨b',_,_,_,q1,_,_,_,_,_,_,q8⟩:=s.gD i vs t n h0;have hlb:uJ c h i b:= .inr ⟨vs,t,n,n,h0,hb⟩;obtain⟨g1,g2⟩:=s.bd hlb;have le:=Cx.putG_le (c:=c) (i:=i) (n:=n+m) (w:=w) (q8 _ (by omega));have hSn:(S.set b (.cells ws t .uT)).n=S.n:=rfl
 have Ad:∀j x,uJ (c.putG i (n+m) w) (aJ h i (.gD (vs++nv) t (n+m))) j x->(j=i/\x=S.n)\/uJ c h j x:=by
  intro j x l;by_cases e:j=i
  ·subst e
   rcases l with ⟨o',e1,eg,e2⟩ | ⟨vs',t',n',k,e1,e2⟩
   ·rw [aB]at e1;injection e1 with e1;subst e1;cases eg
   ·have e2:(if j=j/\k=n+m then some w else c.G j k)=_:=e2
    by_cases hk:k=n+m
    ·rw [aK ⟨rfl,hk⟩]at e2
     injection e2 with e2;injection e2 with e2;injection e2 with e2;injection e2 with e2;exact .inl ⟨rfl,e2.symm⟩
    ·rw [aG (fun x=>hk x.2)]at e2
     exact .inr (.inr ⟨vs,t,n,k,h0,e2⟩)
  ·refine .inr ?_
   rcases l with ⟨o',e1,eg,e2⟩ | ⟨vs',t',n',k,e1,e2⟩
   ·rw [aC e]at e1
    exact .inl ⟨o',e1,eg,e2⟩
   ·rw [aC e]at e1
    have e2:(if j=i/\k=n+m then some w else c.G j k)=_:=e2;rw [aG (fun x=>e x.1)]at e2;exact .inr ⟨vs',t',n',k,e1,e2⟩
 have fr:FB (dN B c h) S S' (dN B (c.putG i (n+m) w) (aJ h i (.gD (vs++nv) t (n+m)))):=by
  refine⟨RR _,fun j hj hc=>?_,fun x l=>?_⟩
  ·show((S.set b _).new _).obj j=_
   rw [iG (by rw [hSn];omega),lO (show j≠b from fun e=>hc (.inr ⟨i,e▸hlb⟩))]
  ·rcases l with l | ⟨j,l⟩
   ·exact .inl (.inl l)
   ·rcases Ad j x l with ⟨_,e⟩ | l
    ·exact .inr (Ce e.symm)
    ·exact .inl (.inr ⟨j,l⟩)
 have oth:∀j x,j≠i->uJ c h j x->S'.obj x=S.obj x:=fun j x e l=>by
  have:x≠b:=fun e3=>e (s.inj j i b (e3▸l) hlb);show((S.set b _).new _).obj x=_;rw [iG (by rw [hSn];have:=(s.bd l).2;omega),lO this]
 refine⟨⟨⟨Nat.le_succ_of_le s.base.n,fun j hj=>?_⟩,s.bB,?_,?_,?_,?_,?_,s.YE,?_,?_⟩,le,fr,aK ⟨rfl,rfl⟩⟩
 ·have:=s.base.n
  show((S.set b _).new _).obj j=_;rw [iG (by rw [hSn];omega),lO (by omega)];exact s.base.same j hj
 ·intro j o' e eg
  have e2:j≠i:=fun e2=>by subst e2;rw [aB]at e;injection e with e;subst e;cases eg
  rw [aC e2]at e;obtain⟨x,ws',a1,a2,a3,a4,a5⟩:=s.ob j o' e eg;exact⟨x,ws',a1,a2,sS a3,by rw [oth j x e2 (.inl ⟨o',e,eg,a1⟩)];exact a4,a5.mono le fr⟩
 ·intro j vs' t' k e
  by_cases e2:j=i
  ·subst e2
   rw [aB]at e;injection e with e;injection e with e3 e4 e5;subst e3 e4 e5;refine⟨S.n,ws++nw,b::olds,sz,aK ⟨rfl,rfl⟩,s.base.n,xR _,?_,(hvw.app hv).mono le fr,hs,by rw [jZ,JG,hn,KU],fun q hq=>?_⟩
   ·show((S.set b _).new _).obj (S.set b (.cells ws t .uT)).n=_
    exact vM
   ·show(if j=j/\q=n+m then some w else c.G j q)=none
    rw [aG (fun x=>by omega)];exact q8 q (by omega)
  ·rw [aC e2]at e
   obtain⟨x,ws',Ld,sz',a1,a2,a3,a4,a5,a6,a7,a8⟩:=s.gD j vs' t' k e;refine⟨x,ws',Ld,sz',le.G _ _ _ a1,a2,sS a3,by rw [oth j x e2 (.inr ⟨vs',t',k,k,e,a1⟩)];exact a4,a5.mono le fr,a6,a7,fun q hq=>?_⟩;show(if j=i/\q=n+m then some w else c.G j q)=none;rw [aG (fun x=>e2 x.1)];exact a8 q hq
 ·intro j k x l1 l2
  rcases Ad j x l1 with ⟨e1,e2⟩ | l1
  ·rcases Ad k x l2 with ⟨e3,e4⟩ | l2
   ·rw [e1,e3]
   ·have:=(s.bd l2).2;omega
  ·rcases Ad k x l2 with ⟨e3,e4⟩ | l2
   ·have:=(s.bd l1).2;omega
   ·exact s.inj j k x l1 l2
 ·intro j k u e
  have e:(if j=i/\k=n+m then some w else c.G j k)=some u:=e;by_cases e2:j=i/\k=n+m
  ·rw [aK e2]at e;injection e with e;exact⟨S.n,by rw [<-e,e2.2]⟩
  ·rw [aG e2]at e;exact s.Gs j k u e
 ·obtain⟨N,hN⟩:=s.room
  refine⟨max N (i+1),fun j hj=>?_⟩;obtain⟨a1,a2,a3⟩:=hN j (by omega);exact⟨by rw [aC (by omega)];exact a1,a2,fun q=>by show(if j=i/\q=n+m then some w else c.G j q)=none;rw [aG (fun x=>by omega)];exact a3 q⟩
 ·intro j vs' t' n' k x e e3
  rcases Ad j x (.inr ⟨vs',t',n',k,e,e3⟩)with ⟨_,e4⟩ | l
  ·rw [e4];exact⟨s.base.n,xR _⟩
  ·obtain⟨q1,q2⟩:=s.bd l
   exact⟨q1,sS q2⟩
 ·intro j vs' t' n' x ws' e' Ld e e3 e5 y hy
  have e3:(if j=i/\n'=n+m then some w else c.G j n')=_:=e3;by_cases e4:j=i
  ·subst e4
   rw [aB]at e;injection e with e;injection e with _ _ e6;rw [aK ⟨rfl,e6.symm⟩]at e3;injection e3 with e3;injection e3 with e3;injection e3 with e3;injection e3 with e3
   have e7:S'.obj S.n=some (.cells (ws++nw) t (.grown (b::olds))):=by
    show((S.set b _).new _).obj (S.set b (.cells ws t .uT)).n=_;exact vM
   rw [<-e3,e7]at e5;injection e5 with e5;injection e5 with _ _ e5;injection e5 with e5;rw [<-e5]at hy;rcases cC.1 hy with rfl | hy
   ·exact⟨n,le.G _ _ _ hb⟩
   ·obtain⟨q,hq⟩:=s.old j vs t n b ws t olds h0 hb ho y hy
    exact⟨q,le.G _ _ _ hq⟩
  ·rw [aG (fun x=>e4 x.1)]at e3
   rw [aC e4]at e;rw [oth j x e4 (.inr ⟨vs',t',n',n',e,e3⟩)]at e5;obtain⟨q,hq⟩:=s.old j vs' t' n' x ws' e' Ld e e3 e5 y hy;exact⟨q,le.G _ _ _ hq⟩
theorem VS.aKo (s:VS P B Sb c h S){i n b:Nat}{vs vs':List V}{t:TypeId}{ws ws':List Value}{olds ol kl:List Nat} (hol:∀x∈ol,x∈olds) (hkl:∀x∈kl,x∈olds) (h0:h i=some (.gD vs t n)) (hb:c.G i n=some (.slice (some ⟨b,0,some 0⟩) n n)) (ho:S.obj b=some (.cells ws t (.grown olds))) (hl:vs'.length=vs.length) (hv:mA c S (dN B c h) vs' ws'){S':St}
 (hn:S'.n=S.n) (hs:∀j,S'.obj j=if j=b then some (.cells ws' t (.grown ol))else if j∈kl then some .dead else S.obj j):
 VS P B Sb c (aJ h i (.gD vs' t n)) S'/\FB (dN B c h) S S' (dN B c (aJ h i (.gD vs' t n))):=by
 have hlb:uJ c h i b:= .inr ⟨vs,t,n,n,h0,hb⟩
 have hold:∀x∈olds,uJ c h i x:=fun x hx=>by
  obtain⟨m,hm⟩:=s.old i vs t n b ws t olds h0 hb ho x hx;exact .inr ⟨vs,t,n,m,h0,hm⟩
 have Ad:∀j x,uJ c (aJ h i (.gD vs' t n)) j x->uJ c h j x:=by
  intro j x l;by_cases e:j=i
  ·subst e
   rcases l with ⟨o',e1,eg,e2⟩ | ⟨vs2,t2,n',m,e1,e2⟩
   ·rw [aB]at e1;injection e1 with e1;subst e1;cases eg
   ·exact .inr ⟨vs,t,n,m,h0,e2⟩
  ·rcases l with ⟨o',e1,eg,e2⟩ | ⟨vs2,t2,n',m,e1,e2⟩
   ·rw [aC e]at e1;exact .inl ⟨o',e1,eg,e2⟩
   ·rw [aC e]at e1;exact .inr ⟨vs2,t2,n',m,e1,e2⟩
 have same:∀x,¬uJ c h i x->S'.obj x=S.obj x:=fun x hx=>by
  rw [hs,aG (fun e:x=b=>hx (e▸hlb)),aG (fun e=>hx (hold x (hkl x e)))]
 have oth:∀j x,j≠i->uJ c h j x->S'.obj x=S.obj x:=fun j x e l=>same x fun l2=>e (s.inj j i x l l2)
 have fr:FB (dN B c h) S S' (dN B c (aJ h i (.gD vs' t n))):=by
  refine⟨Ce hn.symm,fun j _ hc=>same j fun l=>hc (.inr ⟨i,l⟩),fun x l=>?_⟩;rcases l with l | ⟨j,l⟩
  ·exact .inl (.inl l)
  ·exact .inl (.inr ⟨j,Ad j x l⟩)
 refine⟨⟨⟨by rw [hn];exact s.base.n,fun j hj=>?_⟩,s.bB,?_,?_,fun j k x l1 l2=>s.inj j k x (Ad j x l1) (Ad k x l2),s.Gs,?_,s.YE,?_,?_⟩,fr⟩
 ·rw [same j fun l=>by have:=(s.bd l).1;omega];exact s.base.same j hj
 ·intro j o' e eg
  have e2:j≠i:=fun e2=>by subst e2;rw [aB]at e;injection e with e;subst e;cases eg
  rw [aC e2]at e;obtain⟨x,a',a1,a2,a3,a4,a5⟩:=s.ob j o' e eg;exact⟨x,a',a1,a2,by rw [hn];exact a3,by rw [oth j x e2 (.inl ⟨o',e,eg,a1⟩)];exact a4,a5.mono (.refl c) fr⟩
 ·intro j vs2 t2 k e
  by_cases e2:j=i
  ·subst e2
   rw [aB]at e;injection e with e;injection e with e3 e4 e5;subst e3 e4 e5;obtain⟨x,ws2,Ld,sz',a1,a2,a3,a4,a5,a6,a7,a8⟩:=s.gD j vs t n h0;rw [hb]at a1;injection a1 with a1;injection a1 with a1;injection a1 with a1;injection a1 with a1;subst a1;exact⟨b,ws',ol,sz',hb,a2,by rw [hn];exact a3,by rw [hs,aK rfl],hv.mono (.refl c) fr,a6,by rw [hl];exact a7,a8⟩
  ·rw [aC e2]at e
   obtain⟨x,ws2,Ld,sz',a1,a2,a3,a4,a5,a6⟩:=s.gD j vs2 t2 k e;exact⟨x,ws2,Ld,sz',a1,a2,by rw [hn];exact a3,by rw [oth j x e2 (.inr ⟨vs2,t2,k,k,e,a1⟩)];exact a4,a5.mono (.refl c) fr,a6⟩
 ·obtain⟨N,hN⟩:=s.room
  refine⟨N,fun j hj=>?_⟩;obtain⟨a1,a2,a3⟩:=hN j hj;have:j≠i:=fun e=>by subst e;rw [h0]at a1;cases a1
  exact⟨by rw [aC this];exact a1,a2,a3⟩
 ·intro j vs2 t2 k m x e e3
  rw [hn];exact s.bd (Ad j x (.inr ⟨vs2,t2,k,m,e,e3⟩))
 ·intro j vs2 t2 k x ws2 e' Ld e e3 e5 y hy
  by_cases e2:j=i
  ·subst e2
   rw [aB]at e;injection e with e;injection e with _ _ e6;subst e6;rw [hb]at e3;injection e3 with e3;injection e3 with e3;injection e3 with e3;injection e3 with e3;subst e3;rw [hs,aK rfl]at e5;injection e5 with e5;injection e5 with _ _ e5;injection e5 with e5;rw [<-e5]at hy;exact s.old j vs t n b ws t olds h0 hb ho y (hol y hy)
  ·rw [aC e2]at e
   rw [oth j x e2 (.inr ⟨vs2,t2,k,k,e,e3⟩)]at e5;exact s.old j vs2 t2 k x ws2 e' Ld e e3 e5 y hy
end
section
variable{α:Type}
theorem aCq (t:Tr α):∀(n:Nat) (k:α->Prop),aHr t n k->∃x,t.get n=some x/\k x:=by
 induction t with
 | leaf=>intro n k h;cases h
 | node v l r ihl ihr=>
  intro n k h;cases n with
  | zero=>
   cases v with
   | none=>cases h
   | some x=>exact⟨x,rfl,h⟩
  | succ p=>
   have h:pW (Nat.mod p 2) (aHr l (Nat.div p 2) k) (fun _=>aHr r (Nat.div p 2) k):=h;have hm:p%2=0\/p%2=1:=by omega
   rcases hm with hm | hm
   ·have:Nat.mod p 2=0:=hm
    rw [this]at h;obtain⟨x,e1,e2⟩:=ihl _ _ (show aHr l (Nat.div p 2) k from h);refine⟨x,?_,e2⟩;have e3:(p+1) / 2=Nat.div p 2:=by show _=p / 2;omega
    simp only [Tr.get,OR,OV,and_false,if_false,show(p+1)%2=1 by omega,if_true,e3];exact e1
   ·have:Nat.mod p 2=0+1:=hm
    rw [this]at h;obtain⟨x,e1,e2⟩:=ihr _ _ (show aHr r (Nat.div p 2) k from h);refine⟨x,?_,e2⟩;have e3:(p+1) / 2-1=Nat.div p 2:=by show _=p / 2;omega
    simp only [Tr.get,OR,OV,and_false,if_false,show ¬(p+1)%2=1 by omega,e3];exact e1
theorem aKp (t:Tr α){k:Prop}:∀(n:Nat),aHt t n k->t.get n=none/\k:=by
 induction t with
 | leaf=>intro n h;exact⟨rfl,h⟩
 | node v l r ihl ihr=>
  intro n h;cases n with
  | zero=>
   cases v with
   | none=>exact⟨rfl,h⟩
   | some x=>cases h
  | succ p=>
   have h:pW (Nat.mod p 2) (aHt l (Nat.div p 2) k) (fun _=>aHt r (Nat.div p 2) k):=h;have hm:p%2=0\/p%2=1:=by omega
   rcases hm with hm | hm
   ·have:Nat.mod p 2=0:=hm
    rw [this]at h;obtain⟨e1,e2⟩:=ihl _ (show aHt l (Nat.div p 2) k from h);refine⟨?_,e2⟩;have e3:(p+1) / 2=Nat.div p 2:=by show _=p / 2;omega
    simp only [Tr.get,OR,OV,and_false,if_false,show(p+1)%2=1 by omega,if_true,e3];exact e1
   ·have:Nat.mod p 2=0+1:=hm
    rw [this]at h;obtain⟨e1,e2⟩:=ihr _ (show aHt r (Nat.div p 2) k from h);refine⟨?_,e2⟩;have e3:(p+1) / 2-1=Nat.div p 2:=by show _=p / 2;omega
    simp only [Tr.get,OR,OV,and_false,if_false,show ¬(p+1)%2=1 by omega,e3];exact e1
theorem aMW (t:Tr α):∀(n:Nat) (k:Tr α->Prop),aKf t n k=k (t.del n):=by
 induction t with
 | leaf=>intro n k;rfl
 | node v l r il ir=>
  intro n k;cases n with
  | zero=>rfl
  | succ p=>
   show pW (p%2) (aKf l (p / 2) fun c=>k (.node v c r)) (fun _=>aKf r (p / 2) fun c=>k (.node v l c))=_;rw [il,ir];have aIu:p+1≠0:=by omega
   simp only [Tr.del,aG aIu];rcases Nat.mod_two_eq_zero_or_one p with h | h
   ·rw [h,aK (by omega),show(p+1) / 2=p / 2 by omega];rfl
   ·rw [h,aG (by omega),show(p+1) / 2-1=p / 2 by omega];rfl
theorem aMX (x:α):∀(f:Nat) (t:Tr α) (n:Nat) (k:Tr α->Prop),aHs x f t n k=k (Tr.KB x f t n):=by
 intro f;induction f with
 | zero=>intro t n k;rfl
 | succ f ih=>
  intro t n k;cases t with
  | leaf=>
   cases n with
   | zero=>rfl
   | succ p=>
    show pW (Nat.mod p 2) (aHs x f .leaf (Nat.div p 2) fun c=>k (.node none c .leaf)) (fun _=>aHs x f .leaf (Nat.div p 2) fun c=>k (.node none .leaf c))=_;rw [ih,ih];have hm:p%2=0\/p%2=1:=by omega
    rcases hm with hm | hm
    ·have:Nat.mod p 2=0:=hm
     rw [this];have e3:(p+1) / 2=Nat.div p 2:=by show _=p / 2;omega
     simp only [Tr.KB,OR,OV,and_false,if_false,show(p+1)%2=1 by omega,if_true,e3];rfl
    ·have:Nat.mod p 2=0+1:=hm
     rw [this];have e3:(p+1) / 2-1=Nat.div p 2:=by show _=p / 2;omega
     simp only [Tr.KB,OR,OV,and_false,if_false,show ¬(p+1)%2=1 by omega,e3];rfl
  | node v l r=>
   cases n with
   | zero=>rfl
   | succ p=>
    show pW (Nat.mod p 2) (aHs x f l (Nat.div p 2) fun c=>k (.node v c r)) (fun _=>aHs x f r (Nat.div p 2) fun c=>k (.node v l c))=_;rw [ih,ih];have hm:p%2=0\/p%2=1:=by omega
    rcases hm with hm | hm
    ·have:Nat.mod p 2=0:=hm
     rw [this];have e3:(p+1) / 2=Nat.div p 2:=by show _=p / 2;omega
     simp only [Tr.KB,OR,OV,and_false,if_false,show(p+1)%2=1 by omega,if_true,e3];rfl
    ·have:Nat.mod p 2=0+1:=hm
     rw [this];have e3:(p+1) / 2-1=Nat.div p 2:=by show _=p / 2;omega
     simp only [Tr.KB,OR,OV,and_false,if_false,show ¬(p+1)%2=1 by omega,e3];rfl
theorem QY{l:List α}{i:Nat}{k:α->Prop} (h:Gq l i k):∃a,l[i]? =some a/\k a:=by
 unfold Gq at h;split at h
 ·rename_i a e;exact⟨a,e,h⟩
 ·cases h
end
structure Mb (c:Cx) (S:St) (C:Nat->Prop) (l:List Nat):Prop where
 n0:c.n0<=S.n
 nd:l.Nodup
 ok:∀d∈l,c.n0<=d/\d<S.n/\¬C d/\S.obj d=some .defers
theorem Mb.mono{c d:Cx}{S S':St}{C C':Nat->Prop}{m:List Nat} (k:Mb c S C m) (l:c.le d) (f:FB C S S' C'):Mb d S' C' m:=by
 refine⟨by rw [l.n0];exact zR k.n0 f.n,k.nd,fun x hx=>?_⟩;obtain⟨h1,h2,h3,h4⟩:=k.ok x hx;refine⟨by rw [l.n0];exact h1,DJ h2 f.n,fun h=>?_,by rw [f.same x h2 h3];exact h4⟩;rcases f.sub _ h with h | h
 ·exact h3 h
 ·omega
structure AR (c:Cx) (S:St) (C:Nat->Prop) (A:VA) (A':bA):Prop where
 n:A.tmps.n=A'.tmps.n
 g:A.g=A'.g
 marks:Mb c S C A'.marks
 got:∀i v,A.tmps.t.get i=some v->∃w,A'.tmps.t.get i=some w/\fO c S C v w
 abs:∀i,A.tmps.t.get i=none->A'.tmps.t.get i=none
section
variable{P:Program}{B:Nat->Prop}{Sb:St}{c c' d:Cx}{h h':Hp}{S S':St}{C C':Nat->Prop}
theorem AR.mono{A:VA}{A':bA} (a:AR c S C A A') (l:c.le d) (f:FB C S S' C'):AR d S' C' A A':=
 ⟨a.n,a.g,a.marks.mono l f,fun i v e=>let⟨w,p,q⟩:=a.got i v e;⟨w,p,q.mono l f⟩,a.abs⟩
theorem AR.put{A:VA}{A':bA} (a:AR c S C A A'){i:Nat}{v:V}{w:Value} (hv:fO c S C v w):AR c S C ⟨⟨A.tmps.t.put i v,A.tmps.n⟩,A.g⟩ ⟨A'.tmps.put i w,A'.marks,A'.g⟩:=by
 refine⟨a.n,a.g,a.marks,fun j x e=>?_,fun j e=>?_⟩
 ·have e:(A.tmps.t.put i v).get j=some x:=e
  rw [AX]at e;show ∃w',(A'.tmps.t.put i w).get j=some w'/\_;rw [AX];by_cases hj:j=i
  ·rw [aK hj]at e ⊢;injection e with e;subst e;exact⟨w,rfl,hv⟩
  ·rw [aG hj]at e ⊢;exact a.got j x e
 ·have e:(A.tmps.t.put i v).get j=none:=e
  rw [AX]at e;show(A'.tmps.t.put i w).get j=none;rw [AX];by_cases hj:j=i
  ·rw [aK hj]at e;cases e
  ·rw [aG hj]at e ⊢;exact a.abs j e
theorem EO{A:VA}{A':bA} (a:AR c S C A A'){i:Nat}{k:V->Prop}{k':Value->Bool} (h:Ux A.tmps i k) (hk:∀v w,fO c S C v w->k v->k' w=true):YU A'.tmps i k'=true:=by
 obtain⟨v,e,hv⟩:=aCq _ _ _ h;obtain⟨w,e2,r⟩:=a.got i v e;unfold YU;rw [nH,e2];exact hk v w r hv
theorem ZL{v:V}{T:VTm}{i:Nat}{k:VTm->Prop} (h:Bg v T i k):i<T.n/\k ⟨T.t.put i v,T.n⟩:=by
 obtain⟨t,n⟩:=T;unfold Bg at h;simp only at h;split at h
 ·rename_i hb
  rw [aMX]at h;exact⟨cG hb,h⟩
 ·cases h
theorem Gv{v:Value}{T:Tm}{i:Nat} (hi:i<T.n) (k:Tm->Bool):uU v T i k=k (T.put i v):=by
 unfold uU;rw [show Nat.blt i T.n=true from nT hi,SK];rfl
theorem Xc{A:VA}{A':bA} (a:AR c S C A A'){d:Tmp}{v:V}{w:Value} (hv:fO c S C v w){k:VA->Prop}{k':bA->Bool} (h:Rr A d v k) (hk:∀B B',AR c S C B B'->k B->k' B'=true):mV A' (some d) w k'=true:=by
 obtain⟨T,g⟩:=A;obtain⟨h1,h2⟩:=ZL (show Bg v T d (fun T=>k ⟨T,g⟩)from h);show uU w A'.tmps d (fun ts=>k' ⟨ts,A'.marks,A'.g⟩)=true;rw [Gv (by rw [<-a.n];exact h1)];exact hk _ _ (a.put hv) h2
theorem aKq{v:Value}{x:V} (e:ofC v=some x):kV v=true/\fO c S C x v:=by
 unfold ofC at e;split at e
 ·rename_i cs
  split at e
  ·rename_i l hl
   injection e with e;subst e;have JG:mA c S C l cs:=ZK hl;refine⟨?_,.agg JG.len JG.rd⟩;show cs.all bW=true
   have:∀(cs:List Value) (l:List V),LR cs=some l->cs.all bW=true:=by
    intro cs;induction cs with
    | nil=>intro _ _;rfl
    | cons a cs ih=>
     intro l h;unfold LR at h;split at h
     ·rename_i x hx
      split at h
      ·rename_i xs hxs
       simp only [OX,aCp hx,ih xs hxs,Bool.and_self]
      ·cases h
     ·cases h
   exact this cs l hl
  ·cases e
 ·have hf:=aCp e
  refine⟨?_,aKm e⟩;cases v<;>first | exact hf | (simp [bW]at hf)
theorem cE{A:VA}{A':bA} (a:AR c S C A A'){x:Operand}{k:V->Prop}{k':Value->Bool} (h:(AT x).f A k) (hk:∀v w,fO c S C v w->k v->k' w=true):wA A' x k'=true:=by
 cases x with
 | tmp t=>exact EO a h hk
 | const v=>
  unfold AT at h;cases e:ofC v with
  | none=>simp only [e]at h
  | some d=>
   simp only [e]at h;obtain⟨hf,r⟩:=aKq (c:=c) (S:=S) (C:=C) e;unfold wA;simp only [hf];exact hk d v r h
 | global g=>cases h
 | func f=>exact hk _ _ (.func (a':=[]) (d':=[]) rfl rfl (fun k v w e=>by simp at e) (fun k v w e=>by simp at e)) h
theorem Gw{A:VA}{A':bA} (a:AR c S C A A'):∀{xs:List Operand} {k:List V->Prop} {k':List Value->Bool},(aHu xs).f A k->(∀vs ws,mA c S C vs ws->k vs->k' ws=true)->WC A' xs k'=true:=by
 intro xs;induction xs with
 | nil=>intro k k' h hk;exact hk [] [] .nil h
 | cons x xs ih=>
  intro k k' h hk;have h:(AT x).f A (fun v=>(aHu xs).f A fun vs=>k (v::vs)):=h;refine cE a h fun v w r h=>?_;exact ih h fun vs ws rs h=>hk (v::vs) (w::ws) (.cons r rs) h
theorem VS.one (s:VS P B Sb c h S){v:V}{w:Value} (r:fO c S C v w) (ho:fV v=true):lD w=true:=by
 cases r<;>first
  | rfl
  | (simp [fV]at ho;done)
  | (rename_i e;obtain⟨b,rfl⟩:=s.Gs _ _ _ e;rfl)
  | (rename_i ht hd;cases hd<;>rfl)
theorem VS.aHx (s:VS P B Sb c h S){vs:List V}{ws:List Value} (r:mA c S C vs ws) (ho:vs.all fV=true):ws.all lD=true:=by
 rw [dL]at ho ⊢;intro w hw;obtain⟨k,hk⟩:=Bt hw;have hl:=r.len;have hkl:=(dK.1 hk).1;exact s.one (r.rd k vs[k] w (aQ (by omega)) hk) (ho _ (cJ (by omega)))
theorem aKr (O:Tag):∀(l:List Dt) (o k:Nat),(Tl O o l)[k]? =(l[k]?).map fun d=>T (.sub O (o+k)) d:=by
 intro l;induction l with
 | nil=>intro o k;simp [Tl]
 | cons d l ih=>
  intro o k;cases k with
  | zero=>simp [Tl]
  | succ k=>
   simp only [Tl,Bs,ih];rw [show o+1+k=o+(k+1)by omega]
theorem aEn (O:Tag):∀(l:List Dt) (o:Nat),(Tl O o l).length=l.length:=by
 intro l;induction l with
 | nil=>intro o;rfl
 | cons d l ih=>intro o;simp [Tl,ih]
theorem Jn{O:Tag}{cs:List Dt}{b o n cc:Nat}{sp:Option Nat} (ht:QX c S C O (.slice (some ⟨b,o,sp⟩) n cc)) (hd:ZI S C (.list cs n) (.slice (some ⟨b,o,sp⟩) n cc)){k m:Nat} (hk:k+m<=cs.length) (hm:0<m):
 ∃ws e ck,S.obj b=some (.cells ws e ck)/\o+k+m<=ws.length/\mA c S C (Tl O k ((cs.drop k).take m)) ((ws.drop (o+k)).take m):=by
 cases hd with
 | emp=>simp at hk;omega
 | row AW hb hC ho hl hn hr=>
  rename_i ws e ck;refine⟨ws,e,ck,ho,by omega,by rw [aEn];simp;omega,fun j v w e1 e2=>?_⟩;rw [aKr,sR]at e1;rw [sR]at e2;by_cases hj:j<m
  ·rw [aK hj,rH]at e1 e2
   cases ed:cs[k+j]? with
   | none=>rw [ed]at e1;cases e1
   | some x=>
    rw [ed]at e1;injection e1 with e1;subst e1;have hw:ws[o+(k+j)]? =some w:=by rw [<-vG];exact e2
    exact aPE (hr (k+j) x w ed hw) (.sub ht hb hC ho hw)
  ·rw [aG hj]at e2;cases e2
theorem aF7 (s:VS P B Sb c h S){a:V}{w:Value} (r:fO c S (dN B c h) a w){Kv:KV}{K:VK} (k:∀v w,fO c S (dN B c h) v w->Kv v h->K w S=true) (hv:aU a h Kv):rLd w S K=true:=by
 unfold aU at hv;split at hv
 ·rename_i i o
  cases r with
  | ptr hZ=>
   split at hv
   ·rename_i vs t e
    obtain⟨v,ev,hv⟩:=QY hv;obtain⟨b,ws,a1,a2,a3,a4,a5⟩:=s.row i vs t e;rw [hZ]at a1;injection a1 with a1;subst a1;obtain⟨u,eu,ru⟩:=a5.get ev;rw [aIY a4 eu];exact k v u ru hv
   ·cases hv
 ·rename_i O cs o
  cases r with
  | @nU _ _ b o0 n cc _ sp ht hd=>
   obtain⟨x,ex,hv⟩:=QY hv;have hlt:=(dK.1 ex).1;obtain⟨ws,e,ck,g1,g2,g3⟩:=Jn ht hd (k:=o) (m:=1) (by omega) (by omega);have hw:ws[o0+o]? =some (ws[o0+o]'(by omega)):=aQ _;rw [aIY g1 hw];refine k _ _ (g3.rd 0 _ _ ?_ ?_) hv
   ·rw [aKr,sR,aK (by omega),rH,VZ,ex];rfl
   ·rw [sR,aK (by omega),rH,VZ];exact hw
 ·rename_i i n o
  cases r with
  | wM hG=>
   split at hv
   ·rename_i vs t m e
    obtain⟨rfl,hv⟩:=hv;obtain⟨v,ev,hv⟩:=QY hv;obtain⟨b,ws,olds,sz,a1,a2,a3,a4,a5,a6⟩:=s.gD i vs t m e;rw [hG]at a1;injection a1 with a1;injection a1 with a1;injection a1 with a1;injection a1 with a1;subst a1;obtain⟨u,eu,ru⟩:=a5.get ev;rw [aIY a4 eu];exact k v u ru hv
   ·cases hv
 ·cases hv
theorem aCr (s:VS P B Sb c h S){n:Nat} (hn:0<n){a:V}{w:Value} (r:fO c S (dN B c h) a w){Kv:KV}{K:VK} (k:∀v w,fO c S (dN B c h) v w->Kv v h->K w S=true) (hv:bJ n a h Kv):aIK n w S K=true:=by
 unfold bJ at hv;split at hv
 ·rename_i i o
  cases r with
  | ptr hZ=>
   split at hv
   ·rename_i vs t e
    obtain⟨hl,hv⟩:=hv;obtain⟨b,ws,a1,a2,a3,a4,a5⟩:=s.row i vs t e;rw [hZ]at a1;injection a1 with a1;subst a1;have:=a5.len;rw [aDN a4 (by omega)];exact k _ _ (.agg ((a5.drop o).take n).len ((a5.drop o).take n).rd) hv
   ·cases hv
 ·rename_i O cs o
  cases r with
  | @nU _ _ b o0 m cc _ sp ht hd=>
   obtain⟨hl,hv⟩:=hv;obtain⟨ws,e,ck,g1,g2,g3⟩:=Jn ht hd hl hn;rw [aDN g1 g2];exact k _ _ (.agg g3.len g3.rd) hv
 ·rename_i i m o
  cases r with
  | wM hG=>
   split at hv
   ·rename_i vs t m' e
    obtain⟨rfl,hl,hv⟩:=hv;obtain⟨b,ws,olds,sz,a1,a2,a3,a4,a5,a6⟩:=s.gD i vs t m' e;rw [hG]at a1;injection a1 with a1;injection a1 with a1;injection a1 with a1;injection a1 with a1;subst a1;have:=a5.len;rw [aDN a4 (by omega)];exact k _ _ (.agg ((a5.drop o).take n).len ((a5.drop o).take n).rd) hv
   ·cases hv
 ·cases hv
theorem TK (s:VS P B Sb c h S){x:V}{w:Value} (r:fO c S C x w){k:List V->Prop} (hv:wN x k):∃vs ws,mA c S C vs ws/\k vs/\ws.all lD=true/\∀K:List Value->Bool,pX w K=K ws:=by
 unfold wN at hv;split at hv
 ·rename_i cs
  obtain⟨ho,hv⟩:=hv;cases r with
  | agg la ha=>
   rename_i a';have hr:mA c S C cs a':=⟨la,ha⟩;have:=s.aHx hr ho;refine⟨cs,a',hr,hv,this,fun K=>?_⟩;show(match xU lD a' with | true=>K a' | false=>false)=_;rw [nG,this]
 ·cases hv
 ·rename_i h1 h2
  have ho:fV x=true:=by cases x<;>first | rfl | exact aX rfl (h1 _) | exact aX rfl (h2 _)
  have:=s.one r ho;exact⟨[x],[w],.cons r .nil,hv,by simp [this],fun K=>aBW this K⟩
theorem Di (s:VS P B Sb c h S){i o b:Nat}{vs cs:List V}{ws:List Value}{t:TypeId} (e:h i=some (.row vs t)) (hZ:c.Z i=some b) (g:mA c S (dN B c h) cs ws) (hl:o+cs.length<=vs.length){Kv:Hp->Prop}{K:St->Bool} (k:∀h' S',FB (dN B c h) S S' (dN B c h')->VS P B Sb c h' S'->Kv h'->K S'=true) (hv:Kv (aJ h i (.row (aY o cs vs) t))):vH S b o ws K=true:=by
 obtain⟨b',us,a1,a2,a3,a4,a5⟩:=s.row i vs t e;rw [hZ]at a1;injection a1 with a1;subst a1;have l1:=a5.len;have l2:=g.len;unfold vH;rw [LM a4];show tP o ws us (fun vs=>tK S b (.cells vs t .exact) K)=true;rw [BQ,aK (by omega),iB];obtain⟨s1,s2⟩:=s.setRow e hZ (a5.aY g o);exact k _ _ s2 s1 hv
theorem SV (s:VS P B Sb c h S){i n o b:Nat}{vs cs:List V}{ws:List Value}{t:TypeId} (e:h i=some (.gD vs t n)) (hG:c.G i n=some (.slice (some ⟨b,0,some 0⟩) n n)) (g:mA c S (dN B c h) cs ws) (hl:o+cs.length<=vs.length){Kv:Hp->Prop}{K:St->Bool} (k:∀h' S',FB (dN B c h) S S' (dN B c h')->VS P B Sb c h' S'->Kv h'->K S'=true) (hv:Kv (aJ h i (.gD (aY o cs vs) t n))):vH S b o ws K=true:=by
 obtain⟨b',us,olds,sz,a1,a2,a3,a4,a5,a6⟩:=s.gD i vs t n e;rw [hG]at a1;injection a1 with a1;injection a1 with a1;injection a1 with a1;injection a1 with a1;subst a1;have l1:=a5.len;have l2:=g.len;have RO:(aY o cs vs).length=vs.length:=by unfold aY;simp;omega
 unfold vH;rw [LM a4]
 show(NG o us fun l=>match Ia ws l with
  | true=>K S
  | false=>tP o ws us fun vs=>Vi olds S.h fun h=>ZR (.cells vs t (.grown [])) (Nat.succ b) h b fun h=>K ⟨h,S.n⟩)=true
 rw [DR,aK (by omega)];cases hs:Ia ws (us.drop o)with
 | true=>
  obtain⟨_,q⟩:=Wa hs
  have hus:aY o ws us=us:=by
   apply xQ;intro j;rw [sV _ _ _ (by omega)];split
   ·rename_i hj
    have:=q (j-o) _ (aQ (by omega));rw [rH,show o+(j-o)=j by omega]at this;rw [this,aQ (by omega)]
   ·rfl
  obtain⟨s1,s2⟩:=s.aKo (vs':=aY o cs vs) (ws':=us) (olds:=olds) (ol:=olds) (kl:=[]) (fun _ h=>h) (fun _ h=>by cases h) e hG a4 RO (by have:=a5.aY g o;rwa [hus]at this) (S':=S) rfl (fun j=>by
   by_cases hj:j=b
   ·rw [aK hj,hj,a4]
   ·rw [aG hj,aG (by simp)])
  exact k _ _ s2 s1 hv
 | false=>
  show(tP o ws us fun vs=>Vi olds S.h fun h=>ZR (.cells vs t (.grown [])) (Nat.succ b) h b fun h=>K ⟨h,S.n⟩)=true;rw [BQ,aK (by omega),aBh,SK]
  obtain⟨s1,s2⟩:=s.aKo (vs':=aY o cs vs) (ws':=aY o ws us) (olds:=olds) (ol:=[]) (kl:=olds) (fun _ h=>by cases h) (fun _ h=>h) e hG a4 RO (a5.aY g o) (S':=⟨Tr.KB (jD.cells (aY o ws us) t (CK.grown [])) b.succ (olds.foldl (fun h i=>h.put i jD.dead) S.h) b,S.n⟩) rfl (fun j=>by
   show Tr.get (Tr.KB _ (b+1) _ b) j=_;rw [Pj _ _ _ _ _ (xR b),aBi];rfl)
  exact k _ _ s2 s1 hv
theorem aMY (s:VS P B Sb c h S){n:Nat}{a x:V}{w y:Value} (r:fO c S (dN B c h) a w) (q:fO c S (dN B c h) x y){Kv:Hp->Prop}{K:St->Bool} (k:∀h' S',FB (dN B c h) S S' (dN B c h')->VS P B Sb c h' S'->Kv h'->K S'=true) (hv:mB n a x h Kv):rSt n w y S K=true:=by
 unfold mB at hv;split at hv
 ·rename_i i o
  cases r with
  | @ptr _ _ b hZ=>
   split at hv
   ·rename_i vs t e
    obtain⟨cs,ws,g1,⟨g2,g3,g4⟩,g5,g6⟩:=TK s q hv;have l2:=g1.len;show pX y (fun cs=>KW cs fun m=>match Nat.beq m n with | true=>vH S b o cs K | false=>false)=true;rw [g6,oE,show Nat.beq ws.length n=true by rw [<-l2,g2];exact Cb n];exact Di s e hZ g1 (by omega) k g4
   ·cases hv
 ·rename_i i q' o
  cases r with
  | @wM _ _ _ b hG=>
   split at hv
   ·rename_i vs t m e
    obtain⟨rfl,hv⟩:=hv;obtain⟨cs,ws,g1,⟨g2,g3,g4⟩,g5,g6⟩:=TK s q hv;have l2:=g1.len;show pX y (fun cs=>KW cs fun m=>match Nat.beq m n with | true=>vH S b o cs K | false=>false)=true;rw [g6,oE,show Nat.beq ws.length n=true by rw [<-l2,g2];exact Cb n];exact SV s e hG g1 (by omega) k g4
   ·cases hv
 ·cases hv
end
section
variable{P:Program}{B:Nat->Prop}{Sb:St}{c c' d:Cx}{h h':Hp}{S S':St}{C C':Nat->Prop}
def KR (P:Program) (B:Nat->Prop) (Sb:St) (c:Cx) (h:Hp) (S:St) (Kv:KV) (K:VK):Prop:=
 ∀c' h' S' v w,c.le c'->FB (dN B c h) S S' (dN B c' h')->VS P B Sb c' h' S'->fO c' S' (dN B c' h') v w->Kv v h'->K w S'=true
theorem KR.here{Kv:KV}{K:VK} (k:KR P B Sb c h S Kv K) (s:VS P B Sb c h S){v:V}{w:Value} (r:fO c S (dN B c h) v w) (hk:Kv v h):K w S=true:=k c h S v w (.refl c) (.refl _ S) s r hk
theorem Gx (s:VS P B Sb c h S){vs:List V}{ws:List Value}{t:TypeId} (hv:mA c S (dN B c h) vs ws){Kn:Nat->Hp->Prop} (hn:aKa vs t h Kn):
 ∃c' h' i,c.le c'/\FB (dN B c h) S (S.new (.cells ws t .exact)) (dN B c' h')/\VS P B Sb c' h' (S.new (.cells ws t .exact))/\c'.Z i=some S.n/\Kn i h':=by
 obtain⟨i,e1,e2,e3⟩:=s.fresh;obtain⟨a1,a2,a3,a4⟩:=s.newRow e1 e2 e3 t hv;exact⟨_,_,i,a2,a3,a1,a4,hn i e1⟩
theorem aEo (s:VS P B Sb c h S){z:List Value}{t:TypeId}{Kv:KV}{K:VK} (k:KR P B Sb c h S Kv K) (hv:cN z t h Kv):Iv z t S K=true:=by
 unfold cN sC at hv;split at hv
 ·rename_i l e
  obtain⟨c',h',i,a1,a2,a3,a4,a5⟩:=Gx s (ZK e) hv;rw [aI0];exact k c' h' _ _ _ a1 a2 a3 (.ptr a4) a5
 ·cases hv
theorem aKs (s:VS P B Sb c h S){t:TypeId}{x:V}{w:Value} (r:fO c S (dN B c h) x w){Kv:KV}{K:VK} (k:KR P B Sb c h S Kv K) (hv:iE t x h Kv):aA4 t w S K=true:=by
 obtain⟨cs,ws,g1,g2,g3,g4⟩:=TK s r hv;obtain⟨c',h',i,a1,a2,a3,a4,a5⟩:=Gx s g1 g2;unfold aA4;rw [g4,jH];exact k c' h' _ _ _ a1 a2 a3 (.ptr a4) a5
def PsR (c:Cx) (S:St) (C:Nat->Prop):List (Nat×Nat×V)->List (Nat×Nat×Value)->Prop
 | [],[]=>True
 | (o,n,v)::l,(o',n',w)::m=>o=o'/\n=n'/\fO c S C v w/\PsR c S C l m
 | _,_=>False
theorem Xd (s:VS P B Sb c h S):∀{ps:List (Nat×Nat×V)} {Tk:List (Nat×Nat×Value)} {cs:List V} {cs':List Value} {k:List V->Prop} {k':List Value->Bool},PsR c S C ps Tk->mA c S C cs cs'->iN ps cs k->(∀cs cs',mA c S C cs cs'->k cs->k' cs'=true)->XJ Tk cs' k'=true:=by
 intro ps;induction ps with
 | nil=>
  intro Tk cs cs' k k' hp hc hv hk
  match Tk,hp with
  | [],_=>exact hk cs cs' hc hv
 | cons p ps ih=>
  intro Tk cs cs' k k' hp hc hv hk;obtain⟨o,n,v⟩:=p
  match Tk,hp with
  | (o',n',w)::Tk,hp=>
   obtain⟨rfl,rfl,r,hp⟩:=hp;obtain⟨vs,ws,g1,⟨g2,g3,g4⟩,g5,g6⟩:=TK s r hv;have l1:=g1.len;have l2:=hc.len;show pX w (fun new=>KW new fun m=>match Nat.beq m n with | true=>tP o new cs' (fun cs=>XJ Tk cs k') | false=>false)=true;rw [g6,oE,show Nat.beq ws.length n=true by rw [<-l1,g2];exact Cb n];show tP o ws cs' (fun cs=>XJ Tk cs k')=true;rw [BQ,aK (by omega)];exact ih hp (hc.aY g1 o) g4 hk
theorem Dj{A:VA}{A':bA} (a:AR c S C A A'){place:Nat->Option (Nat×Nat)}:∀{ps:List (Nat×Operand)} {k:List (Nat×Nat×V)->Prop} {k':List (Nat×Nat×Value)->Bool},(Jm place ps).f A k->(∀l l',PsR c S C l l'->k l->k' l'=true)->(LL place ps).f A' k'=true:=by
 intro ps;induction ps with
 | nil=>intro k k' hv hk;exact hk [] [] trivial hv
 | cons p ps ih=>
  intro k k' hv hk
  have e1:Jm place (p::ps)=match place p.1 with
   | some (off,size)=>⟨fun A k=>(AT p.2).f A fun v=>(Jm place ps).f A fun l=>k ((off,size,v)::l)⟩
   | none=>⟨fun _ _=>False⟩:=rfl
  have e2:LL place (p::ps)=match place p.1 with
   | some (off,size)=>⟨fun A k=>(AY p.2).f A fun v=>(LL place ps).f A fun l=>k ((off,size,v)::l)⟩
   | none=>⟨fun _ _=>false⟩:=rfl
  rw [e1]at hv;rw [e2];cases hp:place p.1 with
  | none=>rw [hp]at hv;cases hv
  | some q=>
   obtain⟨off,size⟩:=q;rw [hp]at hv;simp only at hv ⊢;rw [lH];refine cE a hv fun v w r hv=>?_;exact ih hv fun l l' hl h=>hk ((off,size,v)::l) ((off,size,w)::l') ⟨rfl,rfl,r,hl⟩ h
theorem Rs (s:VS P B Sb c h S){z:List Value}{ps:List (Nat×Nat×V)}{Tk:List (Nat×Nat×Value)} (hp:PsR c S C ps Tk){Kv:V->Prop}{K:Value->Bool} (k:∀v w,fO c S C v w->Kv v->K w=true) (hv:cF z ps Kv):aDK z Tk K=true:=by
 unfold cF sC at hv;split at hv
 ·rename_i l e
  exact Xd s hp (ZK e) hv fun cs cs' r h=>k _ _ (.agg r.len r.rd) h
 ·cases hv
theorem aCs (s:VS P B Sb c h S){el n:Nat}{z:List Value}{ps:List (Nat×Nat×V)}{Tk:List (Nat×Nat×Value)} (hp:PsR c S (dN B c h) ps Tk){Kv:KV}{K:VK} (k:KR P B Sb c h S Kv K) (hv:aP el n z ps h Kv):Zt el n z Tk S K=true:=by
 unfold aP sC at hv;split at hv
 ·rename_i l e
  unfold Zt;rw [HD];refine Xd s hp ((ZK e).flatten n) hv fun cs cs' r hv=>?_;obtain⟨c',h',i,a1,a2,a3,a4,a5⟩:=Gx s r hv;rw [jH];exact k c' h' _ _ _ a1 a2 a3 (.own a4) a5
 ·cases hv
theorem aKt{off:Nat}{x:V}{w:Value} (r:fO c S C x w){Kv:V->Prop}{K:Value->Bool} (k:∀v w,fO c S C v w->Kv v->K w=true) (hv:aS off x Kv):aIL off w K=true:=by
 unfold aS at hv;split at hv
 ·cases r with | ptr e=>rw [aDM];exact k _ _ (.ptr e) hv
 ·cases r with | nU ht hd=>rw [aDM,vG];exact k _ _ (.nU ht hd) hv
 ·cases r with | wM e=>rw [aDM];exact k _ _ (.wM e) hv
 ·cases hv
theorem aEp{off:Nat}{x:V}{w:Value} (r:fO c S C x w){Kv:V->Prop}{K:Value->Bool} (k:∀v w,fO c S C v w->Kv v->K w=true) (hv:aEe off x Kv):Ql off w K=true:=by
 unfold aEe at hv;split at hv
 ·cases r with
  | agg la ha=>
   obtain⟨v,e,hv⟩:=QY hv;obtain⟨u,eu,ru⟩:=mA.get ⟨la,ha⟩ e;rw [aIZ eu];exact k v u ru hv
 ·cases hv
theorem aCt{off n:Nat}{x:V}{w:Value} (r:fO c S C x w){Kv:V->Prop}{K:Value->Bool} (k:∀v w,fO c S C v w->Kv v->K w=true) (hv:aAw off n x Kv):Fi off n w K=true:=by
 unfold aAw at hv;split at hv
 ·cases r with
  | agg la ha=>
   obtain⟨hl,hv⟩:=hv;have hr:mA c S C _ _:=⟨la,ha⟩;rw [aG6 (by omega)];exact k _ _ (.agg ((hr.drop off).take n).len ((hr.drop off).take n).rd) hv
 ·cases hv
theorem aKu (s:VS P B Sb c h S){size:Nat}{x ix:V}{w iw:Value} (r:fO c S C x w) (ri:fO c S C ix iw){Kv:V->Prop}{K:Value->Bool} (k:∀v w,fO c S C v w->Kv v->K w=true) (hv:cI size x ix Kv):aL8 size w iw K=true:=by
 unfold cI at hv;split at hv
 ·rename_i j i
  cases ri;split at hv
  ·obtain⟨hi,hv⟩:=hv
   cases r with
   | list ht hd=>
    cases hd with
    | nil=>omega
    | emp=>omega
    | @row b0 o0 _ cc sp us e0 ck0 _ AW hb hC ho hl hn hr=>
     have hlt:Nat.blt i _=true:=nT hi;have:=k _ _ (.nU ht (.row AW hb hC ho hl hn hr)) hv
     match sp,AW with
     | none,_=>show(match Nat.blt i _ with | true=>_ | false=>false)=true;rw [hlt,bH];exact this
     | some 0,_=>show(match Nat.blt i _ with | true=>_ | false=>false)=true;rw [hlt,bH];exact this
  ·obtain⟨hi,hv⟩:=hv
   cases r with
   | own e=>
    have hlt:Nat.blt i _=true:=nT hi;show(match Nat.blt i _ with | true=>_ | false=>false)=true;rw [hlt,bH];exact k _ _ (.ptr e) hv
  ·obtain⟨hi,hv⟩:=hv
   cases r with
   | acc e=>
    obtain⟨b,rfl⟩:=s.Gs _ _ _ e;have hlt:Nat.blt i _=true:=nT hi;show(match Nat.blt i _ with | true=>_ | false=>false)=true;rw [hlt,bH,dX];exact k _ _ (.wM e) hv
  ·obtain⟨hi,hv⟩:=hv
   cases r with
   | IN e=>
    have hlt:Nat.blt i _=true:=nT hi;show(match Nat.blt i _ with | true=>_ | false=>false)=true;rw [hlt,bH];exact k _ _ (.wM e) hv
  ·cases hv
 ·cases hv
theorem aEq{x ix:V}{w iw:Value} (r:fO c S C x w) (ri:fO c S C ix iw){Kv:V->Prop}{K:Value->Bool} (k:∀v w,fO c S C v w->Kv v->K w=true) (hv:aEf x ix Kv):Zo w iw K=true:=by
 unfold aEf at hv;split at hv
 ·cases ri
  split at hv
  ·rename_i l
   cases r;obtain⟨b,e,hv⟩:=QY hv;show ZS l _ (fun b:UInt8=>bV b.toNat fun n=>K (.int .u8 (.ofNat n)))=true;rw [Zu e,bH];exact k _ _ .int hv
  ·cases hv
 ·cases hv
theorem aKv{i:Nat}{x:V}{w:Value} (r:fO c S C x w){Kv:V->Prop}{K:Value->Bool} (k:∀v w,fO c S C v w->Kv v->K w=true) (hv:uG i x Kv):aIS i w K=true:=by
 unfold uG at hv;split at hv
 ·cases r with
  | tuple la ha=>
   obtain⟨v,e,hv⟩:=QY hv;obtain⟨u,eu,ru⟩:=mA.get ⟨la,ha⟩ e;rw [aOO,Zu eu];exact k v u ru hv
 ·cases hv
theorem aKw{kd:IntKind}{x:V}{w:Value} (r:fO c S C x w){Kv:V->Prop}{K:Value->Bool} (k:∀v w,fO c S C v w->Kv v->K w=true) (hv:LU kd x Kv):aIR kd w K=true:=by
 unfold LU at hv;split at hv
 ·cases r;rw [aOP];exact k _ _ .int hv
 ·cases hv
theorem aHy (s:VS P B Sb c h S){x:V}{w:Value} (r:fO c S C x w){Kv:V->Prop}{K:Value->Bool} (k:∀v w,fO c S C v w->Kv v->K w=true) (hv:bK x Kv):aFj w K=true:=by
 unfold bK at hv;split at hv
 ·cases r with
  | list ht hd=>cases hd<;>exact k _ _ .int hv
 ·cases r;exact k _ _ .int hv
 ·cases r with
  | acc e=>obtain⟨b,rfl⟩:=s.Gs _ _ _ e;exact k _ _ .int hv
 ·cases r;exact k _ _ .int hv
 ·cases r;exact k _ _ .int hv
 ·cases r;exact k _ _ .int hv
 ·cases hv
theorem aHz{x:V}{w:Value} (r:fO c S C x w){Kv:V->Prop}{K:Value->Bool} (k:∀v w,fO c S C v w->Kv v->K w=true) (hv:aKb x Kv):aBT w K=true:=by
 unfold aKb at hv;split at hv
 ·cases r;rw [aMd];exact k _ _ .int hv
 ·cases hv
theorem Src.aEr{i o n cc size:Nat}{sp:Option Nat} (AW:To sp=true){vs:List Value}{e:TypeId}{ck:CK} (ho:S.obj i=some (.cells vs e ck)) (hn:o+n*size<=vs.length) (h1:∀v∈(vs.drop o).take (n*size),lD v=true):Src S size (.slice (some ⟨i,o,sp⟩) n cc) n ((vs.drop o).take (n*size)):=by
 refine⟨fun k=>rfl,fun k hz=>?_,h1⟩;obtain⟨m,rfl⟩:=bG hz
 match sp,AW with
 | none,_=>show PS S i o ((m+1)*size) k=_;rw [ZB ho hn]
 | some 0,_=>show PS S i o ((m+1)*size) k=_;rw [ZB ho hn]
theorem aCu (s:VS P B Sb c h S){size:Nat} (hs0:0<size){x:V}{w:Value} (r:fO c S (dN B c h) x w){kv:Nat->List V->Prop} (hv:Um size x h kv):∃n vs ws,kv n vs/\mA c S (dN B c h) vs ws/\vs.length=n*size/\(∀k,TT w k=k n)/\(vs.all fV=true->Src S size w n ws):=by
 unfold Um at hv;split at hv
 ·cases r
  exact⟨0,[],[],hv,.nil,by simp,fun k=>rfl,fun _=>⟨fun k=>rfl,fun k hz=>aX rfl hz,fun v hv=>by cases hv⟩⟩
 ·rename_i O cs n
  obtain⟨hl,hv⟩:=hv;cases r with
  | list ht hd=>
   have hlen:∀k,TT w k=k n:=fun k=>by cases hd<;>rfl
   rcases OS n with hz | hz
   ·subst hz
    refine⟨0,_,[],hv,?_,by simp [aEn],hlen,fun _=>⟨hlen,fun k hz=>aX rfl hz,fun v hv=>by cases hv⟩⟩;rw [VY,Ok];exact .nil
   ·cases hd with
    | nil=>omega
    | emp=>omega
    | @row b o _ cc sp vs e ck _ AW hb hC ho FF hn hr=>
     have Lo:0<n*size:=Nat.mul_pos hz hs0;obtain⟨us,e',ck',g1,g2,g3⟩:=Jn ht (.row AW hb hC ho FF hn hr) (k:=0) (m:=n*size) (by omega) Lo;rw [ho]at g1;injection g1 with g1;injection g1 with g1;subst g1;rw [xS,VZ]at g3;refine⟨n,_,_,hv,g3,by rw [aEn,mG];omega,hlen,fun h1=>Src.aEr AW ho (by omega) fun v hv=>?_⟩;exact dL.1 (s.aHx g3 h1) v hv
 ·rename_i i o n cc
  cases r with
  | own hZ=>
   split at hv
   ·rename_i vs t e
    obtain⟨hl,hv⟩:=hv;obtain⟨b,ws,a1,a2,a3,a4,a5⟩:=s.row i vs t e;rw [hZ]at a1;injection a1 with a1;subst a1;have l:=a5.len;have hr:=(a5.drop o).take (n*size);refine⟨n,_,_,hv,hr,by rw [mG,BL];omega,fun k=>rfl,fun h1=>Src.row a4 (by omega) fun v hv=>dL.1 (s.aHx hr h1) v hv⟩
   ·cases hv
 ·rename_i i n
  cases r with
  | acc hG=>
   split at hv
   ·rename_i vs t m e
    obtain⟨rfl,hl,hv⟩:=hv;obtain⟨b,ws,olds,sz,a1,a2,a3,a4,a5,a6⟩:=s.gD i vs t m e;rw [hG]at a1;injection a1 with a1;subst a1;have l:=a5.len;refine⟨m,vs,ws,hv,a5,hl,fun k=>rfl,fun h1=>?_⟩;have:=Src.aEr (n:=m) (cc:=m) (size:=size) (o:=0) (sp:=some 0) rfl a4 (by omega) (fun v hv=>dL.1 (s.aHx a5 h1) v (by rw [xS]at hv;exact Bu hv))
    rwa [xS,mF (by omega)]at this
   ·cases hv
 ·rename_i i n o q cc
  cases r with
  | IN hG=>
   split at hv
   ·rename_i vs t m e
    obtain⟨rfl,hl,hv⟩:=hv;obtain⟨b,ws,olds,sz,a1,a2,a3,a4,a5,a6⟩:=s.gD i vs t m e;rw [hG]at a1;injection a1 with a1;injection a1 with a1;injection a1 with a1;injection a1 with a1;subst a1;have l:=a5.len;have hr:=(a5.drop o).take (q*size);refine⟨q,_,_,hv,hr,by rw [mG,BL];omega,fun k=>rfl,fun h1=>Src.aEr (n:=q) (cc:=cc) (size:=size) (o:=o) (sp:=some 0) rfl a4 (by omega) fun v hv=>dL.1 (s.aHx hr h1) v hv⟩
   ·cases hv
 ·cases r
  exact⟨0,[],[],hv,.nil,by simp,fun k=>rfl,fun _=>⟨fun k=>rfl,fun k hz=>aX rfl hz,fun v hv=>by cases hv⟩⟩
 ·rename_i l
  cases r;obtain⟨rfl,hv⟩:=hv;have hx:=Src.text S l;refine⟨l.length,_,Zw l,hv,⟨by simp [Zw],fun k v w e1 e2=>?_⟩,by simp,hx.len,fun _=>hx⟩;unfold Zw at e2;rw [dJ]at e1 e2;cases e:l[k]? with
  | none=>rw [e]at e1;cases e1
  | some b=>rw [e]at e1 e2;injection e1 with e1;injection e2 with e2;subst e1 e2;exact .int
 ·cases hv
theorem aKx (s:VS P B Sb c h S){el size bytes:Nat} (hs0:0<size) (hsz:cQ P el=some size){y x:V}{w u:Value} (r:fO c S (dN B c h) y w) (q:fO c S (dN B c h) x u){Kv:KV}{K:VK} (k:KR P B Sb c h S Kv K) (hv:jY el size bytes y x h Kv):aDI P el size bytes w u S K=true:=by
 obtain⟨m,vs,ws,hv,hr,hl,hlen,aBD⟩:=aCu s hs0 q hv;cases m with
 | zero=>
  have hap:∀b n cc,w= .slice b n cc->n<=cc->Kv y h->aDI P el size bytes w u S K=true:=fun b n cc e hn hk=>by
   have hw:=k.here s r hk;subst e;show TT u _=true;rw [hlen];show(match Nat.ble n cc with | true=>K (.slice b n cc) S | false=>false)=true;rw [show Nat.ble n cc=true from nT hn];exact hw
  simp only at hv;split at hv
  ·cases r;exact hap _ _ _ rfl (bO _) hv
  ·cases r with
   | acc e=>obtain⟨b,rfl⟩:=s.Gs _ _ _ e;exact hap _ _ _ rfl (bO _) hv
  ·cases r;exact hap _ _ _ rfl hv.1 hv.2
  ·cases r with
   | list ht hd=>
    cases hd with
    | nil=>exact hap _ _ _ rfl (bO _) hv
    | emp=>exact hap _ _ _ rfl (bO _) hv
    | row _ _ _ _ _ hn _=>exact hap _ _ _ rfl hn hv
  ·cases hv
 | succ m=>
  obtain⟨h1,hv⟩:=hv;have hx:=aBD h1;split at hv
  ·obtain⟨hb,hv⟩:=hv
   cases r;rw [aI1 hx (by omega) hb];obtain⟨i,e1,e2,e3⟩:=s.fresh;obtain⟨a1,a2,a3,a4⟩:=s.aKn e1 e2 e3 hsz hl hr;exact k _ _ _ _ _ a2 a3 a1 (.acc a4) (hv i e1)
  ·rename_i i n hv0
   cases ei:h i with
   | none=>simp only [ei]at hv
   | some ob=>
   cases ob with
   | row us t=>simp only [ei]at hv
   | map es=>simp only [ei]at hv
   | wS=>simp only [ei]at hv
   | iter=>simp only [ei]at hv
   | loop=>simp only [ei]at hv
   | gD us t n'=>
    simp only [ei]at hv;obtain⟨hn',ht',hul,hb,hv⟩:=hv;subst hn' ht';have e:=ei;obtain⟨b,ws2,olds,sz,a1,a2,a3,a4,a5,a6,a7,a8⟩:=s.gD i us _ _ e;cases r with
    | acc hG=>
     rw [a1]at hG;injection hG with hG;subst hG;have l2:=a5.len;rw [aI2 hx (by omega) hb a4 (by omega) hsz];obtain⟨b1,b2,b3,b4⟩:=s.aMV e a1 a4 hsz hl (by omega) hul a5 hr;exact k _ _ _ _ _ b2 b3 b1 (.acc b4) hv
  ·rename_i i o n cc hv0
   cases ei:h i with
   | none=>simp only [ei]at hv
   | some ob=>
   cases ob with
   | gD us t n'=>simp only [ei]at hv
   | map es=>simp only [ei]at hv
   | wS=>simp only [ei]at hv
   | iter=>simp only [ei]at hv
   | loop=>simp only [ei]at hv
   | row us t=>
    simp only [ei]at hv;obtain⟨hb,aTq,Th,aOw⟩:=hv;obtain⟨b,ws2,a1,a2,a3,a4,a5⟩:=s.row i us t ei;have l2:=a5.len;cases r with
    | own hZ=>
     rw [a1]at hZ;injection hZ with hZ;subst hZ;show TT u _=true;rw [hx.len];show OZ S size (m+1) u _=true;rw [hx.first _ (by omega)];simp only [bH];rw [show Dy (n+(m+1)) bytes=true from Ot hb];by_cases hc:n+(m+1)<=cc
     ·rw [show Nat.ble (n+(m+1)) cc=true from nT hc]
      obtain⟨Cr,hv⟩:=Th hc;have RX:xU lD ws=true:=by rw [nG];exact s.aHx hr h1
      show Id size ws (some ⟨b,o,none⟩) n cc (n+(m+1)) S K=true;unfold Id;simp only [show To none=true from rfl,RX];show bV (o+n*size) (fun at_=>vH S b at_ ws fun S=>K (.slice (some ⟨b,o,none⟩) (n+(m+1)) cc) S)=true;rw [bH];show vH S b (o+n*size) ws _=true;unfold vH;rw [LM a4];show tP (o+n*size) ws ws2 (fun vs=>tK S b (.cells vs t .exact) fun S=>K (.slice (some ⟨b,o,none⟩) (n+(m+1)) cc) S)=true;have l3:=hr.len;rw [BQ,aK (by omega),iB];obtain⟨s1,s2⟩:=s.setRow ei a1 (a5.aY hr (o+n*size));exact k c _ _ _ _ (.refl c) s2 s1 (.own a1) hv
     ·have:Nat.ble (n+(m+1)) cc=false:=by
       cases hq:Nat.ble (n+(m+1)) cc with
       | false=>rfl
       | true=>exact aX (cG hq) hc
      rw [this];have hv:=aOw (by omega);show Ea P el size ws (some ⟨b,o,none⟩) n (n+(m+1)) S K=true;show PS S b o (n*size) (fun old=>TU el old ws (n+(m+1)) none S K)=true;rw [ZB a4 (by omega)];unfold TU;rw [nI];simp only [jH];obtain⟨j,e1,e2,e3⟩:=s.fresh;have hr2:=((a5.drop o).take (n*size)).app hr
      have hn2:((us.drop o).take (n*size)++vs).length=(n+(m+1))*size:=by
       rw [jZ,mG,BL,hl,KU n,Nat.min_eq_left (by omega)]
      obtain⟨b1,b2,b3,b4⟩:=s.aKn e1 e2 e3 hsz hn2 hr2;exact k _ _ _ _ _ b2 b3 b1 (.acc b4) (hv j e1)
  ·cases hv
theorem aKy{x:V}{w:Value} (r:fO c S C x w){Kv:V->Prop}{K:Value->Bool} (k:∀v w,fO c S C v w->Kv v->K w=true) (hv:nB P x Kv):aMa P w K=true:=by
 unfold nB at hv;split at hv
 ·cases r with | ptr e=>exact k _ _ (.ptr e) hv
 ·cases r with | nU ht hd=>exact k _ _ (.nU ht hd) hv
 ·cases r with | wM e=>exact k _ _ (.wM e) hv
 ·cases r with | func a b e f=>exact k _ _ (.func a b e f) hv
 ·cases r with | iface e=>exact k _ _ (.iface e) hv
 ·split at hv
  ·rename_i s v t w'
   split at hv
   ·rename_i g hg
    cases r with
    | LC r=>
     cases r with
     | iface r=>
      show(match KX P t s with | some _=>_ | none=>false)=true;rw [hg];exact k _ _ (.LC (.iface r)) hv
   ·cases hv
  ·cases hv
 ·cases hv
theorem aS5 (x y:Int):(x==y)=decide (x=y):=by
 by_cases e:x=y
 ·subst e;simp
 ·rw [bN e];simpa using e
inductive NR:NK->Bool->Value->Prop
 | p0 {a:Addr}:NR .ptr false (.pointer (some a))
 | p1:NR .ptr true (.pointer none)
 | s0 {a:Addr} {n m:Nat}:NR .slice false (.slice (some a) n m)
 | s1 {n m:Nat}:NR .slice true (.slice none n m)
 | m0 {b:Nat}:NR .map false (.map (some b))
 | m1:NR .map true (.map none)
 | f0 {f:Fn} {a b:Array Value}:NR .func false (.func f a b)
 | f1:NR .func true .nilFunc
 | i0 {t:TypeId} {v:Value}:NR .iface false (.iface t v)
 | i1:NR .iface true .nilIface
theorem Rt (hG:∀i n w,c.G i n=some w->∃b,w= .slice (some ⟨b,0,some 0⟩) n n){a:V}{u:Value} (r:fO c S C a u){kk:NK}{x:Bool} (hk:aAx a=some (kk,x)):NR kk x u:=by
 cases r with
 | @list O cs n w ht hd=>
  cases cs with
  | nil=>cases hk
  | cons d cs=>
   injection hk with hk;injection hk with h1 h2;subst h1 h2;cases hd with
   | row=>exact .s0
 | acc e=>obtain⟨b,rfl⟩:=hG _ _ _ e;injection hk with hk;injection hk with h1 h2;subst h1 h2;exact .s0
 | _=>first
  | (cases hk;done)
  | (injection hk with hk;injection hk with h1 h2;subst h1 h2;constructor)
theorem aN0{t:TypeId}{kk:NK}{x y:Bool}{u w:Value} (hx:NR kk x u) (hy:NR kk y w) (ho:x=true\/y=true) (hi:x=true->y=true->kk≠ .iface) (ht:Fw P t=some kk) (k:Bool->Bool):pY P t u w k=k (x&&y):=by
 unfold Fw at ht;cases hx<;>cases hy<;>first | (rcases ho with ho | ho<;>cases ho;done) | (exact aX rfl (hi rfl rfl)) | (unfold pY;split at ht<;>first | (rename_i hu;simp only [hu];rfl) | (cases ht;done))
theorem aCv{O:Tag}{n:Nat}{u:Value} (r:fO c S C (.list O [] n) u):∃x,NR .slice x u:=by
 cases r with
 | list ht hd=>
  cases hd with
  | nil=>exact⟨true,.s1⟩
  | emp=>exact⟨false,.s0⟩
  | row=>exact⟨false,.s0⟩
theorem aEs{op:BinOp}{t:TypeId}{a b:V}{u w:Value} (r:fO c S C a u) (q:fO c S C b w){Kv:V->Prop}{K:Value->Bool} (k:∀v w,fO c S C v w->Kv v->K w=true) (hv:aEg P op t a b Kv):Ci P op t u w K=true:=by
 unfold aEg at hv;split at hv
 ·split at hv
  ·obtain⟨ht,hv⟩:=hv
   obtain⟨x,hx⟩:=aCv r;cases q;have hy:NR .slice true (.slice none 0 0):= .s1;have e:=aN0 hx hy (.inr rfl) (fun _ _ h=>by cases h) ht;cases op<;>first | (cases hv;done) | skip
   ·have:Ci P .eql t u (.slice none 0 0) K=pY P t u (.slice none 0 0) fun e=>oY e K:=by cases hx<;>rfl
    rw [this,e,rZ];cases x with
    | true=>exact k _ _ .bool hv.1
    | false=>exact k _ _ .bool hv.2
   ·have:Ci P .neq t u (.slice none 0 0) K=pY P t u (.slice none 0 0) fun e=>oY (!e) K:=by cases hx<;>rfl
    rw [this,e,rZ];cases x with
    | true=>exact k _ _ .bool hv.2
    | false=>exact k _ _ .bool hv.1
  ·cases hv
 ·cases hv
theorem aEt{op:BinOp}{t:TypeId}{a b:V}{u w:Value} (hG:∀i n w,c.G i n=some w->∃b,w= .slice (some ⟨b,0,some 0⟩) n n) (r:fO c S C a u) (q:fO c S C b w){Kv:V->Prop}{K:Value->Bool} (k:∀v w,fO c S C v w->Kv v->K w=true) (hv:aEh P op t a b Kv):Ci P op t u w K=true:=by
 unfold aEh at hv;split at hv
 ·rename_i ka x ha
  split at hv
  ·rename_i kb y hb
   obtain⟨rfl,ht,hxy,hi,hv⟩:=hv;have hx:=Rt hG r ha;have hy:=Rt hG q hb;have e:=aN0 hx hy hxy hi ht;cases op<;>first | (cases hv;done) | skip
   ·have:Ci P .eql t u w K=pY P t u w fun e=>oY e K:=by cases hx<;>cases hy<;>rfl
    rw [this,e,rZ];exact k _ _ .bool hv
   ·have:Ci P .neq t u w K=pY P t u w fun e=>oY (!e) K:=by cases hx<;>cases hy<;>rfl
    rw [this,e,rZ];exact k _ _ .bool hv
  ·cases hv
 ·exact aEs r q k hv
theorem aKz{op:BinOp}{t:TypeId}{a b:V}{u w:Value} (hG:∀i n w,c.G i n=some w->∃b,w= .slice (some ⟨b,0,some 0⟩) n n) (r:fO c S C a u) (q:fO c S C b w){Kv:V->Prop}{K:Value->Bool} (k:∀v w,fO c S C v w->Kv v->K w=true) (hv:aH P op t a b Kv):aIQ P op t u w K=true:=by
 rw [SU];unfold aH at hv;split at hv
 ·rename_i j x
  split at hv
  ·rename_i k' y
   cases r;cases q;cases hs:yW op with
   | true=>
    rw [hs]at hv;obtain⟨hy,hv⟩:=hv;have hlt:ltI y 0=false:=by rw [WO];exact bN (by omega)
    cases op<;>first | cases hs | skip
    ·show Cg .shl j x y K=true
     unfold Cg;rw [hlt];show OY j (x*2 ^ (min y.toNat j.bits)) K=true;unfold OY;rw [oF];exact k _ _ .int hv
    ·show Cg .shr j x y K=true
     unfold Cg;rw [hlt];show DL (x.fdiv (2 ^ (min y.toNat j.bits))) (fun n=>K (.int j n))=true;rw [oF];exact k _ _ .int hv
   | false=>
    rw [hs]at hv;obtain⟨rfl,hv⟩:=hv
    have hg:Ci P op t (.int j x) (.int j y) K=RT op j x y K:=by
     rw [<-SU];exact aOQ _ _ _ _ _ _ (by rintro rfl;cases hs) (by rintro rfl;cases hs)
    rw [hg]
    have hint:∀n,Kv (.int j (tC j n))->OY j n K=true:=fun n hv=>by
     unfold OY;rw [oF];exact k _ _ .int hv
    have h0:∀y:Int,y≠0->eqI y 0=false:=fun y hy=>by rw [RZ];simpa using hy
    cases op<;>first
     | exact hint _ hv
     | (obtain⟨hy,hv⟩:=hv;show(match eqI y 0 with | true=>false | false=>_)=true;rw [h0 y hy];first | exact hint _ hv | (show DL _ _=true;rw [oF];exact k _ _ .int hv))
     | (show DL (j.wrap _) (fun n=>K (.int j n))=true;rw [oF];exact k _ _ .int hv)
     | (show oY _ K=true;rw [rZ];simp only [RZ,WO,aS5];first | exact k _ _ .bool hv | (have e1:(!decide (y<x))=decide (x<=y):=(by by_cases h:y<x;rw [bF h,bN (show ¬x<=y by omega)];rfl;rw [bN h,bF (show x<=y by omega)];rfl);rw [e1];exact k _ _ .bool hv) | (have e1:(!decide (x<y))=decide (y<=x):=(by by_cases h:x<y;rw [bF h,bN (show ¬y<=x by omega)];rfl;rw [bN h,bF (show y<=x by omega)];rfl);rw [e1];exact k _ _ .bool hv))
     | cases hv
     | cases hs
  ·cases hv
 ·rename_i x
  split at hv
  ·rename_i y
   cases r;cases q
   have e8:Ov x y=decide (x=y):=by
    rw [SC];by_cases e:x=y
    ·subst e;simp
    ·rw [bN e];simpa using e
   cases op<;>first
    | (show oY _ K=true;rw [rZ];show K (.bool _)=true;first | (rw [e8];exact k _ _ .bool hv) | (rw [aFa];exact k _ _ .bool hv))
    | (exact aX hv id)
    | (obtain⟨hl,hv⟩:=hv
       show(KW x fun n=>KW y fun m=>match Nat.blt (n+m) 9223372036854775808 with | true=>FV x y fun l=>K (.string ⟨⟨l⟩⟩) | false=>false)=true;rw [oE,oE,show Nat.blt (x.length+y.length) 9223372036854775808=true from nT hl];exact(nI x y _).trans (k _ _ .str hv))
  ·cases hv
 ·rename_i x
  split at hv
  ·rename_i y
   cases r;cases q;obtain⟨ht,hv⟩:=hv;unfold aF2 at ht;split at ht
   ·rename_i hu
    have hb:(x==y)=decide (x=y):=by cases x<;>cases y<;>rfl
    cases op<;>first | cases hv | skip
    all_goals
     show pY P t (.bool x) (.bool y) _=true;unfold pY;simp only [hu,pU,rZ,hb];exact k _ _ .bool hv
   ·cases ht
  ·cases hv
 ·exact aEt hG r q k hv
theorem aMZ{op:UnOp}{a:V}{u:Value} (r:fO c S C a u){Kv:V->Prop}{K:Value->Bool} (k:∀v w,fO c S C v w->Kv v->K w=true) (hv:VJ op a Kv):unK op u K=true:=by
 unfold VJ at hv;split at hv
 ·split at hv
  ·cases r;rw [aMe];exact k _ _ .bool hv
  ·cases hv
 ·split at hv
  ·cases r
   show OY _ _ K=true;unfold OY;rw [oF];exact k _ _ .int hv
  ·cases hv
 ·split at hv
  ·cases r
   unfold unK;simp only;rw [oF];exact k _ _ .int hv
  ·cases hv
 ·cases hv
theorem aCw{P:Program}{big:Bool}{ts:List TypeId}{a b:V}{w u:Value} (r:fO c S C a w) (q:fO c S C b u){Kv:V->Prop}{K:VK} (k:∀v w,fO c S C v w->Kv v->K w S=true) (hv:Dc big a b Kv):oZ P (match big with | true=> .max | false=> .min) ts [w,u] S K=true:=by
 cases r<;>try (cases hv;done)
 cases q<;>try (cases hv;done)
 rename_i j x j' y;have hw:=k _ _ .int hv;cases big with
 | true=>
  show Al true [.int j' y] j x (fun v=>K v S)=true;show gE (ltI x y) (K (.int j y) S) (K (.int j x) S)=true;rw [WO];simp only [Int.max_def]at hw;by_cases h:x<y
  ·rw [aK (by omega)]at hw;simp only [bF h];exact hw
  ·by_cases h2:x<=y
   ·rw [aK h2]at hw
    have:x=y:=by omega
    subst this;simp only [bN h];exact hw
   ·rw [aG h2]at hw
    simp only [bN h];exact hw
 | false=>
  show Al false [.int j' y] j x (fun v=>K v S)=true;show gE (ltI y x) (K (.int j y) S) (K (.int j x) S)=true;rw [WO];simp only [Int.min_def]at hw;by_cases h:y<x
  ·rw [aG (by omega)]at hw;simp only [bF h];exact hw
  ·rw [aK (by omega)]at hw;simp only [bN h];exact hw
inductive OR' (c:Cx) (S:St) (C:Nat->Prop):Option V->Option Value->Prop
 | none:OR' c S C none none
 | some {v:V} {w:Value} (h:fO c S C v w):OR' c S C (some v) (some w)
theorem Ru{d:Nat}{o:Option V}{o':Option Value} (r:OR' c S C o o'){k:Nat->Prop}{K:Nat->Bool} (hk:∀n,k n->K n=true) (hv:Ja d o k):aGy d o' K=true:=by
 cases r with
 | none=>exact hk _ hv
 | some r=>
  cases r<;>try (cases hv;done)
  rename_i j z;cases z with
  | ofNat n=>exact hk n hv
  | negSucc n=>cases hv
theorem CY{len cap:Nat}{lo hi mx:Option V}{Nd Co Dw:Option Value} (r1:OR' c S C lo Nd) (r2:OR' c S C hi Co) (r3:OR' c S C mx Dw){k:Nat->Nat->Nat->Prop}{K:Nat->Nat->Nat->Bool} (hk:∀l h m,l<=h->h<=m->m<=cap->k l h m->K l h m=true) (hv:LX len cap lo hi mx k):RU len cap Nd Co Dw K=true:=by
 refine Ru r3 (fun m hv=>Ru r2 (fun h hv=>Ru r1 (fun l hv=>?_) hv) hv) hv;obtain⟨h1,h2,h3,hv⟩:=hv;simp only [nT h1,nT h2,nT h3];exact hk l h m h1 h2 h3 hv
theorem Jo{d:Nat}{o:Option V}{k k':Nat->Prop} (hk:∀n,k n->k' n) (h:Ja d o k):Ja d o k':=by
 unfold Ja at*;split at h
 ·exact hk _ h
 ·exact hk _ h
 ·cases h
theorem aKA{n c:Nat} (hc:n<=c){lo hi:Option V}{v:V}{k:Nat->Nat->Nat->Prop} (h:LX n n lo hi (some v) k):LX n c lo hi (some v) fun l h m=>m<=n/\k l h m:=by
 unfold LX at*
 have h1:Ja c (some v) fun m=>Ja n hi fun h=>Ja 0 lo fun l=>l<=h/\h<=m/\m<=n/\k l h m:=by
  unfold Ja at h ⊢;split at h
  ·rename_i e;cases e
  ·exact h
  ·cases h
 exact Jo (fun m=>Jo fun h=>Jo fun l ⟨a,b,d,e⟩=>⟨a,b,by omega,d,e⟩) h1
theorem aKB (s:VS P B Sb c h S){t el:TypeId}{size:Nat} (he:isSlice P t=some el) (hs:cQ P el=some size){x:V}{w:Value} (r:fO c S C x w){lo hi mx:Option V}{Nd Co Dw:Option Value} (r1:OR' c S C lo Nd) (r2:OR' c S C hi Co) (r3:OR' c S C mx Dw){k:V->Prop}{K:Value->Bool} (hk:∀v w,fO c S C v w->k v->K w=true) (hv:LW el size x lo hi mx h k):vI P t w Nd Co Dw S K=true:=by
 have gD:∀{i n b o q cc:Nat},c.G i n=some (.slice (some ⟨b,0,some 0⟩) n n)->(match h i with
  | some (.gD _ t n')=>n'=n/\t=el/\LX q cc lo hi none fun l h m=>(l<m->k (.IN i n (o+l*size) (h-l) (m-l)))/\(m=l->k (.emp i n))
  | _=>False)->vI P t (.slice (some ⟨b,o,some 0⟩) q cc) Nd Co none S K=true:=by
  intro i n b o q cc e hq;split at hq
  ·rename_i vs t' n' ei
   obtain⟨rfl,rfl,hq⟩:=hq;obtain⟨b',us,olds,sz,a1,a2,a3,a4,a5,a6,a7⟩:=s.gD i vs t' n' ei;rw [e]at a1;injection a1 with a1;injection a1 with a1;injection a1 with a1;injection a1 with a1;subst a1;unfold vI;simp only [he,hs];refine CY r1 r2 .none (fun l h m h1 h2 h3 hz=>?_) hq;obtain⟨hz,hz0⟩:=hz;simp only [bH];cases hw:Nat.beq m l with
   | true=>exact hk _ _ (.aKl e) (hz0 (dI hw))
   | false=>
    have h4:=VT hw;simp only;rw [LM a4];simp only [hs];rw [show Nat.beq size size=true from Cb size];exact hk _ _ (.IN e) (hz (by omega))
  ·cases hq
 cases r<;>try (cases hv;done)
 ·rename_i O cs n ht hd
  cases r3 with
  | none=>cases hv
  | some r3'=>
   have hv:LX n n lo hi (some _) fun l h m=>l<m/\h*size<=cs.length/\k (.list (.cut O (l*size) (h-l) (m-l)) ((cs.drop (l*size)).take ((h-l)*size)) (h-l)):=hv;cases hd with
   | nil=>
    unfold vI;simp only [he,hs];exact CY r1 r2 (.some r3') (fun l h m h1 h2 h3 hq=>aX hq.1 (by omega)) hv
   | emp=>
    unfold vI;simp only [he,hs];exact CY r1 r2 (.some r3') (fun l h m h1 h2 h3 hq=>aX hq.1 (by omega)) hv
   | @row b o _ cc sp vs e ck _ AW hb hC ho hl hn hr=>
    unfold vI;simp only [he,hs];refine CY r1 r2 (.some r3') (fun l h m h1 h2 h3 hq=>?_) (aKA hn hv);obtain⟨hmn,hlm,wL,hq⟩:=hq;have hle:l*size<=cs.length:=zR (RP _ h1) wL;simp only [bH]
    have oX:Nat.beq m l=false:=by
     cases hw:Nat.beq m l with
     | false=>rfl
     | true=>have:=dI hw;omega
    rw [oX]
    have hw:K (.slice (some ⟨b,o+l*size,none⟩) (h-l) (m-l))=true:=by
     refine hk _ _ (.list (.cut ht) (.row rfl hb hC ho ?_ (by omega) fun j d v x1 x2=>?_)) hq
     ·rw [mG,BL]
      omega
     ·rw [sR]at x1
      split at x1
      ·rw [rH]at x1
       exact hr (l*size+j) d v x1 (by rw [<-vG];exact x2)
      ·cases x1
    match sp,AW with
    | none,_=>exact hw
    | some 0,_=>exact hw
 ·unfold vI
  simp only [he,hs];refine CY r1 r2 r3 (fun l h m h1 h2 h3 hv=>?_) hv;simp only [bH];have:h-l=0/\m-l=0:=by omega
  rw [this.1,this.2];exact hk _ _ .nil hv
 ·rename_i i n e
  obtain⟨b,rfl⟩:=s.Gs _ _ _ e;cases r3 with
  | none=>exact gD e hv
  | some _=>cases hv
 ·rename_i i n o q cc b e
  cases r3 with
  | none=>exact gD e hv
  | some _=>cases hv
 ·rename_i i o n m b e
  unfold vI;simp only [he,hs];refine CY r1 r2 r3 (fun l h m h1 h2 h3 hv=>?_) hv;simp only [bH];have hw:K (.slice (some ⟨b,if m=l then o else o+l*size,none⟩) (h-l) (m-l))=true:=hk _ _ (.own e) hv;cases hq:Nat.beq m l with
  | true=>rw [aK (dI hq)]at hw;exact hw
  | false=>rw [aG (VT hq)]at hw;exact hw
theorem aEu (s:VS P B Sb c h S){t el:TypeId}{zero:List Value}{m:Nat} (he:isSlice P t=some el) (hs:cQ P el=some (m+1)) (hz:xC P el=some zero) (hl:Nat.beq zero.length (m+1)=true) (hf:xU bW zero=true){x:V}{w:Value} (r:fO c S (dN B c h) x w){Kv:Hp->Prop}{K:VK} (k:∀h' S',FB (dN B c h) S S' (dN B c h')->VS P B Sb c h' S'->Kv h'->K (.tuple #[]) S'=true) (hv:Df zero x h Kv):oZ P .clear [t] [w] S K=true:=by
 have fin:∀{b o q cc:Nat} {sp:Option Nat},To sp=true->vH S b o (List.replicate (q+1) zero).flatten (fun S=>K (.tuple #[]) S)=true->oZ P .clear [t] [.slice (some ⟨b,o,sp⟩) (q+1) cc] S K=true:=by
  intro b o q cc sp AW hw
  show(match isSlice P t with
   | some elem=>match cQ P elem,xC P elem with
    | some size,some zero=>match(some (⟨b,o,sp⟩:Addr)),q+1 with
     | none,_=>K (.tuple #[]) S
     | some _,0=>K (.tuple #[]) S
     | some ⟨i,o,sp⟩,n+1=>match To sp,Nat.beq zero.length size,xU bW zero,size with
      | true,true,true,_+1=>aA3 zero (n+1) fun cs=>vH S i o cs fun S=>K (.tuple #[]) S
      | _,_,_,_=>false
    | _,_=>false
   | none=>false)=true
  simp only [he,hs,hz,AW,hl,hf];rw [HD];exact hw
 have aKC:∀{a:Addr} {cc:Nat},K (.tuple #[]) S=true->oZ P .clear [t] [.slice (some a) 0 cc] S K=true:=by
  intro a cc hw
  show(match isSlice P t with
   | some elem=>match cQ P elem,xC P elem with
    | some size,some zero=>K (.tuple #[]) S
    | _,_=>false
   | none=>false)=true
  simp only [he,hs,hz];exact hw
 have zs:∀{q:Nat} {z:List V},LR zero=some z->mA c S (dN B c h) (List.replicate (q+1) z).flatten (List.replicate (q+1) zero).flatten:=fun hz=>(ZK hz).flatten _
 have aAG:∀{p:List V->Prop},sC zero p->∃z,LR zero=some z/\p z:=by
  intro p hp;unfold sC at hp;split at hp
  ·rename_i z e;exact⟨z,e,hp⟩
  ·cases hp
 have here:=fun(hv:Kv h)=>k h S (.refl _ S) s hv;unfold Df at hv;split at hv
 ·cases r
  show(match isSlice P t with
   | some elem=>match cQ P elem,xC P elem with
    | some size,some zero=>K (.tuple #[]) S
    | _,_=>false
   | none=>false)=true
  simp only [he,hs,hz];exact here hv
 ·cases r with
  | own e=>
   split at hv
   ·exact aKC (here hv)
   ·obtain⟨z,If,hq⟩:=aAG hv
    split at hq
    ·rename_i vs t' e1
     exact fin rfl (Di s e1 e (zs If) hq.1 k hq.2)
    ·cases hq
 ·cases r with
  | acc e=>
   obtain⟨b,rfl⟩:=s.Gs _ _ _ e;split at hv
   ·exact aKC (here hv)
   ·obtain⟨z,If,hq⟩:=aAG hv
    split at hq
    ·rename_i vs t' m' e1
     obtain⟨rfl,hq⟩:=hq;exact fin rfl (SV s e1 e (zs If) (by omega) k hq.2)
    ·cases hq
 ·cases r with
  | IN e=>
   split at hv
   ·exact aKC (here hv)
   ·obtain⟨z,If,hq⟩:=aAG hv
    split at hq
    ·rename_i vs t' m' e1
     obtain⟨rfl,hq⟩:=hq;exact fin rfl (SV s e1 e (zs If) hq.1 k hq.2)
    ·cases hq
 ·cases hv
theorem aHA (s:VS P B Sb c h S){ts:List TypeId}{dT el:TypeId}{m:Nat} (he:isSlice P dT=some el) (hs:cQ P el=some (m+1)){y x:V}{w u:Value} (r:fO c S (dN B c h) y w) (q:fO c S (dN B c h) x u){Kv:KV}{K:VK} (k:KR P B Sb c h S Kv K) (hv:Ww (m+1) y x h Kv):Vl P (dT::ts) w u S K=true:=by
 unfold Ww at hv;obtain⟨n,vs,ws,hv,hr,hl,hlen,aBD⟩:=aCu s (Oo m) q hv;cases y with
 | own i o d cc=>
  cases r with
  | @own _ _ _ _ b hZ=>
  obtain⟨hn,hv⟩:=hv;unfold Vl;simp only [he,hs];have aGB:Nat.min n d=n:=Nat.min_eq_left hn;rw [hlen,bH,aGB];cases n with
  | zero=>exact k.here s .int hv
  | succ n=>
   obtain⟨h1,hv⟩:=hv;have hS:=aBD h1;show OZ S (m+1) (n+1) u _=true;rw [hS.first _ (by omega)];have ho:xU lD ws=true:=by rw [nG];exact dL.2 hS.one
   simp only [show To none=true from rfl,ho];split at hv
   ·rename_i us t e
    refine Di s e hZ hr hv.1 (fun h' S' f s' PY=>?_) hv.2;exact k c h' S' _ _ (.refl c) f s' .int PY
   ·cases hv
 | _=>cases hv
theorem aKD{t el:TypeId}{len size:Nat} (he:P.underlying t=some (.array len el)) (hs:cQ P el=some size){x:V}{w:Value} (r:fO c S C x w){lo hi mx:Option V}{Nd Co Dw:Option Value} (r1:OR' c S C lo Nd) (r2:OR' c S C hi Co) (r3:OR' c S C mx Dw){k:V->Prop}{K:Value->Bool} (hk:∀v w,fO c S C v w->k v->K w=true) (hv:aRp len size x lo hi mx k):vI P t w Nd Co Dw S K=true:=by
 cases r<;>try (cases hv;done)
 rename_i i o b e;unfold vI;simp only [he,hs];refine CY r1 r2 r3 (fun l h m h1 h2 h3 hv=>?_) hv;simp only [bH];have hw:K (.slice (some ⟨b,if m=l then o else o+l*size,none⟩) (h-l) (m-l))=true:=hk _ _ (.own e) hv;cases hq:Nat.beq m l with
 | true=>rw [aK (dI hq)]at hw;exact hw
 | false=>rw [aG (VT hq)]at hw;exact hw
theorem aKE{t:TypeId} (he:P.underlying t=some .string){x:V}{w:Value} (r:fO c S C x w){lo hi:Option V}{Nd Co:Option Value} (r1:OR' c S C lo Nd) (r2:OR' c S C hi Co){k:V->Prop}{K:Value->Bool} (hk:∀v w,fO c S C v w->k v->K w=true) (hv:aRo x lo hi k):vI P t w Nd Co none S K=true:=by
 cases r<;>try (cases hv;done)
 rename_i s;unfold vI;simp only [he];rw [oE];refine CY r1 r2 .none (fun l h m h1 h2 h3 hv=>?_) hv;rw [HQ,aK (by omega),DR,aK (by simp;omega)];exact hk _ _ .str hv
theorem aM0 (s:VS P B Sb c h S){t el:TypeId}{info:TypeInfo}{zero:List Value}{n:Nat} (he:isSlice P t=some el) (hi:P.info? el=some info) (hz:xC P el=some zero) (hl:Nat.beq zero.length info.size=true) (hn:info.size=n+1) (hf:xU bW zero=true){x y:V}{w u:Value} (r:fO c S C x w) (q:fO c S C y u){Kv:KV}{K:VK} (k:KR P B Sb c h S Kv K) (hv:vMk el info.bytes zero x y h Kv):xW P t w u S K=true:=by
 unfold vMk at hv;cases r<;>try (cases hv;done)
 rename_i j z;cases z with
 | negSucc n=>cases hv
 | ofNat l=>
 cases q<;>try (cases hv;done)
 rename_i j' z;cases z with
 | negSucc n=>cases hv
 | ofNat cc=>
  obtain⟨h1,h2,h3,hv⟩:=hv;unfold sC at hv;split at hv
  ·rename_i zs e
   rw [hn]at hl;unfold xW;simp only [he,hi,hz,nT h1,nT h2,nT h3,nT (show cc<=1099511627776 by omega),hl,hn,hf];rw [HD];obtain⟨c',h',i,a1,a2,a3,a4,a5⟩:=Gx s ((ZK e).flatten cc) hv;rw [jH];exact k c' h' _ _ _ a1 a2 a3 (.own a4) a5
  ·cases hv
end
section
variable{P:Program}{B:Nat->Prop}{Sb:St}{c c' d:Cx}{h h':Hp}{S S':St}{C C':Nat->Prop}
theorem aCE (k:IntKind):FW k k=true:=by cases k<;>rfl
theorem aKO{t:TypeId}{ct:CT} (h:Jk P t=some ct):sU P t=true:=by
 unfold Jk at h;unfold sU;split at h<;>simp_all
theorem aN2{t:TypeId}{ct:CT} (hc:Jk P t=some ct){a b:V}{a' b':Value} (ha:fO c S C a a') (hb:fO c S C b b') (oa:aHo ct a) (ob:aHo ct b) (k:Bool->Bool):∃e:Bool,(e=true↔a=b)/\xD P t a' b' k=k e:=by
 unfold Jk at hc;split at hc
 ·rename_i ik hu
  injection hc with hc;subst hc;cases ha<;>try (cases oa;done)
  rename_i j x;cases hb<;>try (cases ob;done)
  rename_i j' y;have oa:j=ik:=oa;have ob:j'=ik:=ob;subst oa ob;refine⟨eqI x y,?_,?_⟩
  ·rw [RZ]
   constructor
   ·intro h;rw [beq_iff_eq.1 h]
   ·intro h;injection h with _ h;subst h;simp
  ·unfold xD
   simp only [hu,aCE,pU]
 ·rename_i hu
  injection hc with hc;subst hc;cases ha<;>try (cases oa;done)
  rename_i x;cases hb<;>try (cases ob;done)
  rename_i y;refine⟨Ov x y,?_,?_⟩
  ·rw [SC]
   constructor
   ·intro h;rw [beq_iff_eq.1 h]
   ·intro h;injection h with h;subst h;simp
  ·unfold xD
   simp only [hu,pU]
 ·rename_i hu
  injection hc with hc;subst hc;cases ha<;>try (cases oa;done)
  rename_i x;cases hb<;>try (cases ob;done)
  rename_i y;refine⟨x==y,?_,?_⟩
  ·constructor
   ·intro h;rw [beq_iff_eq.1 h]
   ·intro h;injection h with h;subst h;simp
  ·unfold xD
   simp only [hu,pU]
 ·cases hc
theorem aKP{k:Bool->Bool}:∀{fs:List Field} {l:List CT} {a b:List V} {a' b':List Value},OD P fs=some l->mA c S C a a'->mA c S C b b'->Lc l a->Lc l b->∃e:Bool,(e=true↔a=b)/\PU P fs a' b' k=k e:=by
 intro fs;induction fs with
 | nil=>
  intro l a b a' b' hl ha hb oa ob;simp [OD]at hl;subst hl;cases a with
  | cons=>cases oa
  | nil=>cases b with
   | cons=>cases ob
   | nil=>exact⟨true,by simp,rfl⟩
 | cons f fs ih=>
  intro l a b a' b' hl ha hb oa ob;unfold OD at hl;split at hl
  ·rename_i ct hct
   split at hl
   ·rename_i l' Tg
    injection hl with hl;subst hl;cases a with
    | nil=>cases oa
    | cons x a=>cases b with
     | nil=>cases ob
     | cons y b=>
      obtain⟨x',a'',rfl,rx,ra⟩:=ha.cons_inv;obtain⟨y',b'',rfl,ry,rb⟩:=hb.cons_inv;obtain⟨e2,g3,g4⟩:=ih Tg ra rb oa.2 ob.2;obtain⟨e1,g1,g2⟩:=aN2 hct rx ry oa.1 ob.1 (fun e=>match e with | true=>PU P fs a'' b'' k | false=>k false);refine⟨e1&&e2,?_,?_⟩
      ·rw [dR,g1,g3];simp
      ·show xD P f.type x' y' (fun e=>match e with | true=>PU P fs a'' b'' k | false=>k false)=_
       rw [g2];cases e1 with
       | true=>exact g4
       | false=>rfl
   ·cases hl
  ·cases hl
theorem aRx{t:TypeId}{sh:KSh} (hs:Rk P t=some sh){a b:V}{a' b':Value} (ha:fO c S C a a') (hb:fO c S C b b') (oa:TG sh a) (ob:TG sh b) (k:Bool->Bool):∃e:Bool,(e=true↔a=b)/\IT P t a' b' k=k e:=by
 unfold Rk at hs;split at hs
 ·rename_i ct hct
  injection hs with hs;subst hs;obtain⟨e,g1,g2⟩:=aN2 hct ha hb oa ob k;refine⟨e,g1,?_⟩;rw [<-g2];unfold IT;split
  ·rename_i xs ys
   cases ha<;>cases ct<;>cases oa
  ·rfl
 ·split at hs
  ·rename_i fs hfs
   split at hs
   ·rename_i l hl
    injection hs with hs;subst hs;cases ha<;>try (cases oa;done)
    cases hb<;>try (cases ob;done)
    rename_i xs xs' la rxa ys ys' lb ryb;obtain⟨e,g1,g2⟩:=aKP (k:=k) hl ⟨la,rxa⟩ ⟨lb,ryb⟩ oa ob;refine⟨e,?_,?_⟩
    ·rw [g1];simp
    ·show pY P t (.agg ⟨xs'⟩) (.agg ⟨ys'⟩) k=_
     unfold pY;simp only [hfs];exact g2
   ·cases hs
  ·cases hs
theorem aGb{ct:CT}{v:V}{w:Value} (r:fO c S C v w) (o:aHo ct v):bW w=true:=by
 cases r<;>first | rfl | (cases ct<;>cases o)
theorem aKQ:∀{l:List CT} {a:List V} {a':List Value},mA c S C a a'->Lc l a->a'.all bW=true/\a'.length=l.length:=by
 intro l;induction l with
 | nil=>intro a a' r o;cases a with | cons=>cases o | nil=>rw [r.sB];exact⟨rfl,rfl⟩
 | cons ct l ih=>
  intro a a' r o;cases a with
  | nil=>cases o
  | cons x a=>
   obtain⟨x',a'',rfl,rx,ra⟩:=r.cons_inv;obtain⟨h1,h2⟩:=ih ra o.2;exact⟨by simp [aGb rx o.1,h1],by simp [h2]⟩
theorem aCF:∀{fs:List Field} {l:List CT},OD P fs=some l->fs.length=l.length:=by
 intro fs;induction fs with
 | nil=>intro l h;simp [OD]at h;subst h;rfl
 | cons f fs ih=>
  intro l h;unfold OD at h;split at h
  ·split at h
   ·rename_i hl;injection h with h;subst h;simp [ih hl]
   ·cases h
  ·cases h
theorem aCG{t:TypeId}{sh:KSh} (hs:Rk P t=some sh){a:V}{a':Value} (ha:fO c S C a a') (oa:TG sh a):TS P t a'=true:=by
 unfold Rk at hs;split at hs
 ·rename_i ct hct
  injection hs with hs;subst hs;have hf:=aGb ha oa;have h1:kV a'=true:=by cases a'<;>first | exact hf | (simp [bW]at hf)
  unfold TS;simp only [h1,aKO hct]
 ·rename_i hn
  split at hs
  ·rename_i fs hfs
   split at hs
   ·rename_i l hl
    injection hs with hs;subst hs;cases ha<;>try (cases oa;done)
    rename_i xs xs' la rxa;obtain⟨h1,h2⟩:=aKQ ⟨la,rxa⟩ oa;have h1:kV (.agg ⟨xs'⟩)=true:=h1;unfold TS;have h3:Nat.ble fs.length xs'.length=true:=nT (by rw [aCF hl,h2];exact bO _);simp only [h1];cases sU P t with
    | true=>rfl
    | false=>simp only [hfs,h3]
   ·cases hs
  ·cases hs
theorem bytes_beq (l:List UInt8):((⟨⟨l⟩⟩:ByteArray)==⟨⟨l⟩⟩)=true:=by
 show ByteArray.beq ⟨⟨l⟩⟩ ⟨⟨l⟩⟩=true;unfold ByteArray.beq;simp
theorem aGc{n:Nat}{ct:CT}{v:V}{w:Value} (r:fO c S C v w) (o:aHo ct v):Instr.sameBits n w w=true:=by
 cases r<;>first | (cases ct<;>cases o;done) | (cases n<;>first | exact bytes_beq _ | (simp [Instr.sameBits];done))
theorem aKR{n:Nat}:∀{l:List CT} {a:List V} {a':List Value},mA c S C a a'->Lc l a->((a'.zip a').all fun(x,y)=>Instr.sameBits n x y)=true:=by
 intro l;induction l with
 | nil=>intro a a' r o;cases a with | cons=>cases o | nil=>rw [r.sB];rfl
 | cons ct l ih=>
  intro a a' r o;cases a with
  | nil=>cases o
  | cons x a=>
   obtain⟨x',a'',rfl,rx,ra⟩:=r.cons_inv;simp [aGc rx o.1];have:=ih ra o.2;simpa using this
theorem aM3{sh:KSh}{a:V}{a':Value} (ha:fO c S C a a') (oa:TG sh a) (n:Nat):Instr.sameBits (n+1) a' a'=true:=by
 cases sh with
 | one ct=>exact aGc ha oa
 | many l=>
  cases ha<;>try (cases oa;done)
  rename_i xs xs' la rxa;have:=aKR (n:=n) (⟨la,rxa⟩:mA c S C xs xs') oa;simp only [Instr.sameBits];simpa using this
def EsR (c:Cx) (S:St) (C:Nat->Prop) (es:List (V×V)) (jT:List MapEntry):Prop:=es.length=jT.length/\∀(k:Nat) (x:V×V) (y:MapEntry),es[k]? =some x->jT[k]? =some y->fO c S C x.1 y.key/\fO c S C x.2 y.val
theorem EsR.tail{x:V×V}{y:MapEntry}{es:List (V×V)}{jT:List MapEntry} (r:EsR c S C (x::es) (y::jT)):EsR c S C es jT:=⟨by simpa using r.1,fun k a b p q=>r.2 (k+1) a b (by simpa using p) (by simpa using q)⟩
theorem aCH{t:TypeId}{sh:KSh} (hs:Rk P t=some sh){a:V}{a':Value} (ha:fO c S C a a') (oa:TG sh a) (k:Option (Nat×MapEntry)->Bool):∀{es:List (V×V)} {jT:List MapEntry} (i:Nat),EsR c S C es jT->(∀e∈es,TG sh e.1)->
 (YC es a=none/\(∀x,PG es a x=es++[(a,x)])/\iD (β:=Nat->Bool) (fun _=>k none) (fun e _ ih i=>IT P t a' e.key fun b=>match b with | true=>k (some (i,e)) | false=>bV (Nat.succ i) ih) jT i=k none)\/
 ∃j v e',YC es a=some v/\jT[j]? =some e'/\e'.key=a'/\fO c S C v e'.val/\(∀x,PG es a x=es.set j (a,x))/\iD (β:=Nat->Bool) (fun _=>k none) (fun e _ ih i=>IT P t a' e.key fun b=>match b with | true=>k (some (i,e)) | false=>bV (Nat.succ i) ih) jT i=k (some (i+j,e')):=by
 intro es;induction es with
 | nil=>
  intro jT i r ho;have:jT=[]:=sO (by simpa using r.1.symm);subst this;exact .inl ⟨rfl,fun x=>rfl,rfl⟩
 | cons x es ih=>
  intro jT i r ho;cases jT with
  | nil=>have:=r.1;simp at this
  | cons y jT=>
   have r0:=r.2 0 x y rfl rfl;rw [bU];obtain⟨e,g1,g2⟩:=aRx hs ha r0.1 oa (ho x (.head _)) (fun b=>match b with | true=>k (some (i,y)) | false=>bV (Nat.succ i) (iD (β:=Nat->Bool) (fun _=>k none) (fun e _ ih i=>IT P t a' e.key fun b=>match b with | true=>k (some (i,e)) | false=>bV (Nat.succ i) ih) jT));rw [g2];by_cases he:a=x.1
   ·have:e=true:=g1.2 he
    subst this;refine .inr ⟨0,x.2,y,by simp [YC,he],rfl,?_,r0.2,fun z=>by simp [PG,he],rfl⟩;have:=r0.1;rw [<-he]at this;exact this.fn ha
   ·have:e=false:=by cases e with | false=>rfl | true=>exact aX (g1.1 rfl) he
    subst this;rw [bH];rcases ih (i+1) r.tail (fun e he=>ho e (.tail _ he))with ⟨q1,q2,q3⟩ | ⟨j,v,e',q1,q2,q3,q4,q5,q6⟩
    ·exact .inl ⟨by simp [YC,he,q1],fun z=>by simp [PG,he,q2 z],q3⟩
    ·refine .inr ⟨j+1,v,e',by simp [YC,he,q1],by simpa using q2,q3,q4,fun z=>by simp [PG,he,q5 z],?_⟩
     rw [show i+(j+1)=i+1+j by omega];exact q6
theorem VS.map (s:VS P B Sb c h S){i:Nat}{es:List (V×V)} (e:h i=some (.map es)):∃b jT ck,c.Z i=some b/\S.obj b=some (.map jT ck)/\EsR c S (dN B c h) es jT:=by
 obtain⟨b,a,a1,a2,a3,a4,jT,ck,rfl,_,a5,a6⟩:=s.ob i _ e rfl;exact⟨b,jT,ck,a1,a4,a5,a6⟩
theorem VS.aRy (s:VS P B Sb c h S){i:Nat}{es:List (V×V)} (e:h i=some (.map es)):∃b jT ck,c.Z i=some b/\S.obj b=some (.map jT ck)/\EsR c S (dN B c h) es jT/\MG jT ck:=by
 obtain⟨b,a,a1,a2,a3,a4,jT,ck,rfl,a7,a5,a6⟩:=s.ob i _ e rfl;exact⟨b,jT,ck,a1,a4,⟨a5,a6⟩,a7⟩
theorem aED{b:Nat}{es:List MapEntry}{ck:Nat} (e:S.obj b=some (.map es ck)) (k:Option Nat->List MapEntry->Nat->Bool):Xy S (.map (some b)) k=k (some b) es ck:=by
 show rV S.h b _=_;rw [nH];have e:S.h.get b=some (.map es ck):=e;rw [e]
theorem aHD (s:VS P B Sb c h S){t kt et:TypeId}{sh:KSh}{z:Value}{zv:V}{ok:Bool} (ht:IU P t=some (kt,et)) (hs:Rk P kt=some sh) (hz:zeroV P et=some z) (hzv:ofC z=some zv){m a:V}{w u:Value} (r:fO c S (dN B c h) m w) (q:fO c S (dN B c h) a u){Kv:KV}{K:VK} (k:KR P B Sb c h S Kv K) (hv:Rl sh zv ok m a h Kv):YV P t w u ok S K=true:=by
 unfold Rl at hv;split at hv
 ·rename_i i
  cases r with
  | yZ hZ=>
   split at hv
   ·rename_i es e
    obtain⟨oa,ho,hv1,hv2⟩:=hv;obtain⟨b,jT,ck,a1,a2,a3⟩:=s.map e;rw [hZ]at a1;injection a1 with a1;subst a1;obtain⟨hf,rz⟩:=aKq (c:=c) (S:=S) (C:=dN B c h) hzv;unfold YV;simp only [ht,hz,aCG hs q oa];rw [aED a2];unfold Jx
    rcases aCH hs q oa (fun r=>match(generalizing:=false) r with
     | some (_,e)=>match(generalizing:=false) ok with | true=>K (.tuple ⟨[e.val,.bool true]⟩) S | false=>K e.val S
     | none=>match(generalizing:=false) kV z with
      | true=>match(generalizing:=false) ok with | true=>K (.tuple ⟨[z,.bool false]⟩) S | false=>K z S
      | false=>false) 0 a3 ho with ⟨q1,_,q3⟩ | ⟨j,v,e',q1,q2,q3,q4,_,q6⟩
    ·refine q3.trans ?_
     simp only [hf];cases ok with
     | true=>exact k.here s (.tuple (mA.cons rz (.cons .bool .nil)).len (mA.cons rz (.cons .bool .nil)).rd) (hv2 q1)
     | false=>exact k.here s rz (hv2 q1)
    ·refine q6.trans ?_
     cases ok with
     | true=>exact k.here s (.tuple (mA.cons q4 (.cons .bool .nil)).len (mA.cons q4 (.cons .bool .nil)).rd) (hv1 v q1)
     | false=>exact k.here s q4 (hv1 v q1)
   ·cases hv
 ·cases hv
theorem aEw (s:VS P B Sb c h S){t kt et:TypeId}{sh:KSh} (ht:IU P t=some (kt,et)) (hs:Rk P kt=some sh){m a x:V}{w u y:Value} (r:fO c S (dN B c h) m w) (q:fO c S (dN B c h) a u) (rx:fO c S (dN B c h) x y){Kv:KV}{K:VK} (k:KR P B Sb c h S Kv K) (hv:AC sh m a x h fun h=>Kv YA h):FZ P t w u y S (fun S=>K undef S)=true:=by
 unfold AC at hv;split at hv
 ·rename_i i
  cases r with
  | yZ hZ=>
   split at hv
   ·rename_i es e
    obtain⟨oa,ho,hv⟩:=hv;obtain⟨b,jT,ck,a1,a2,a3,a8⟩:=s.aRy e;have a1':=a1;rw [hZ]at a1;injection a1 with a1;subst a1;unfold FZ;simp only [ht,aCG hs q oa];rw [aED a2];simp only;unfold Jx
    have fin:∀es2 ck2,MG es2 ck2->EsR c S (dN B c h) (PG es a x) es2->K undef (S.set _ (.map es2 ck2))=true:=fun es2 ck2 b2 r2=>by
     obtain⟨s1,f1⟩:=s.Xb e rfl hZ (o:= .map (PG es a x)) rfl (ao:= .map es2 ck2) fun S' C' f=>⟨es2,ck2,rfl,b2,r2.1,fun k x y p q=>⟨(r2.2 k x y p q).1.mono (.refl c) f,(r2.2 k x y p q).2.mono (.refl c) f⟩⟩;exact k c _ _ YA undef (.refl c) f1 s1 (.tuple (a':=[]) rfl fun k v w e=>by simp at e) hv
    rcases aCH hs q oa (fun f=>match f with
     | some (i,e)=>match Instr.sameBits 10000 e.key u with
      | true=>aEX {e with val:=y} jT i fun es=>tK S _ (.map es ck) fun S=>K undef S
      | false=>false
     | none=>FV jT [{key:=u,val:=y,born:=ck}] fun es=>bV (Nat.succ ck) fun c=>tK S _ (.map es c) fun S=>K undef S) 0 a3 ho with ⟨q1,q2,q3⟩ | ⟨j,v,e',q1,q2,q3,q4,q5,q6⟩
    ·refine q3.trans ?_
     rw [nI,bH,iB];refine fin _ _ (a8.app rfl) ?_;rw [q2 x];refine⟨by simp [a3.1],fun k p p' e1 e2=>?_⟩;by_cases hk:k<es.length
     ·rw [gV hk]at e1
      rw [gV (by rw [<-a3.1];exact hk)]at e2;exact a3.2 k p p' e1 e2
     ·rw [kQ (by omega)]at e1
      rw [kQ (by rw [<-a3.1];omega),<-a3.1]at e2;cases hq:k-es.length with
      | zero=>
       rw [hq]at e1 e2;simp at e1 e2;subst e1 e2;exact⟨q,rx⟩
      | succ n=>rw [hq]at e1;simp at e1
    ·refine q6.trans ?_
     simp only [dX,q3];rw [aM3 q oa 9999];simp only;rw [Pd,iB];refine fin _ _ (a8.set q2 rfl) ?_;rw [q5 x];refine⟨by simp [a3.1],fun k p p' e1 e2=>?_⟩;by_cases hk:k=j
     ·subst hk
      rw [Of,aK rfl]at e1 e2;split at e1
      ·rename_i hlt
       rw [aK (by rw [<-a3.1];exact hlt)]at e2;injection e1 with e1;injection e2 with e2;subst e1 e2;exact⟨q,rx⟩
      ·cases e1
     ·rw [IP (aN hk)]at e1 e2
      exact a3.2 k p p' e1 e2
   ·cases hv
 ·cases hv
theorem Le (s:VS P B Sb c h S){Kv:KV}{K:VK} (k:KR P B Sb c h S Kv K) (hv:Gr h Kv):zT S (.map [] 0) (fun i S=>K (.map (some i)) S)=true:=by
 obtain⟨i,e1,e2,e3⟩:=s.fresh;obtain⟨s1,l1,f1,i1⟩:=s.aF6 e1 e2 e3 (o:= .map []) (ao:= .map [] 0) rfl fun _ _ _ _ _=>⟨[],0,rfl,⟨.nil,fun e he=>by cases he⟩,rfl,fun k x y p=>by simp at p⟩;rw [jH];exact k _ _ _ _ _ l1 f1 s1 (.yZ i1) (hv i e1)
theorem aAH (s:VS P B Sb c h S){r:V}{w:Value} (rr:fO c S C r w){t:TypeId}{kv:TypeId×TypeId} (ht:IU P t=some kv){Kv:KV}{K:VK} (k:KR P B Sb c h S Kv K) (hv:Gt r h Kv):
 (match(generalizing:=false) w,IU P t with | .int _ _,some _=>zT S (.map [] 0) (fun i S=>K (.map (some i)) S) | _,_=>false)=true:=by
 unfold Gt at hv;split at hv
 ·cases rr
  rw [ht];exact Le s k hv
 ·cases hv
theorem aHC (s:VS P B Sb c h S){t kt et:TypeId} (hu:P.underlying t=some (.map kt et)){x:V}{w:Value} (r:fO c S (dN B c h) x w){Kv:KV}{K:VK} (k:KR P B Sb c h S Kv K) (hv:Rm x h Kv):oZ P .len [t] [w] S K=true:=by
 unfold Rm at hv;split at hv
 ·rename_i i
  cases r with
  | yZ hZ=>
   split at hv
   ·rename_i es e
    obtain⟨b,jT,ck,a1,a2,a3⟩:=s.map e;rw [hZ]at a1;injection a1 with a1;subst a1;have hm:IU P t=some (kt,et):=by unfold IU;rw [hu]
    simp only [oZ,hm];rw [aED a2,oE,<-a3.1];exact k.here s .int hv
   ·cases hv
 ·cases hv
theorem aCz (s:VS P B Sb c h S){t:TypeId}{kv:TypeId×TypeId} (ht:IU P t=some kv){x:V}{w:Value} (r:fO c S (dN B c h) x w){Kv:KV}{K:VK} (k:KR P B Sb c h S Kv K) (hv:HK x h Kv):Dz P t w S K=true:=by
 unfold HK at hv;split at hv
 ·rename_i m
  cases r with
  | yZ hZ=>
   split at hv
   ·rename_i es e
    obtain⟨b,jT,ck,a1,a2,a3,a4⟩:=s.aRy e;rw [hZ]at a1;injection a1 with a1;subst a1;have Dv:(jT.map (·.born)).length=es.length:=by rw [mH];exact a3.1.symm
    have NN:∀x∈jT.map (·.born),x<ck:=fun x hx=>by
     obtain⟨y,hy,rfl⟩:=kS.1 hx;exact a4.2 y hy
    obtain⟨s1,hL⟩:=s.aRw e rfl hZ (o:= .wS es (jT.map (·.born)) ck) rfl fun a C' ha q=>by
     rw [a2]at ha;injection ha with ha;subst ha;obtain⟨es2,ck2,q1,q2,q3,q4⟩:=q;injection q1 with q1 q5;subst q1 q5;exact⟨_,rfl,rfl,q2,q3,q4⟩
    obtain⟨i,e1,e2,e3⟩:=s1.fresh;obtain⟨s2,l2,f2,i2⟩:=s1.aF6 e1 e2 e3 (o:= .iter m ck [] ck) (ao:= .iter (some _) ck [] ck) rfl fun d _ _ ld _=>⟨_,rfl,ld.Z _ _ hZ⟩;unfold Dz;rw [ht];show rV S.h _ _=true;have a2:S.h.get _=some (.map jT ck):=a2;rw [nH,a2];show zT S (.iter (some _) ck [] ck) (fun i S=>K (.pointer (some ⟨i,0,none⟩)) S)=true;rw [jH];rw [hL]at f2;exact k _ _ _ _ _ l2 f2 s2 (.ptr i2) (hv _ ck Dv a4.1 NN i e1)
   ·cases hv
 ·cases hv
theorem VS.iter (s:VS P B Sb c h S){i m since last:Nat}{seen:List Nat} (e:h i=some (.iter m since seen last)):∃b r,c.Z i=some b/\S.obj b=some (.iter (some r) since seen last)/\c.Z m=some r:=by
 obtain⟨b,a,a1,a2,a3,a4,r,rfl,a5⟩:=s.ob i _ e rfl;exact⟨b,r,a1,a4,a5⟩
theorem VS.wS (s:VS P B Sb c h S){i ck:Nat}{es:List (V×V)}{bs:List Nat} (e:h i=some (.wS es bs ck)):∃b jT,c.Z i=some b/\S.obj b=some (.map jT ck)/\jT.map (·.born)=bs/\MG jT ck/\EsR c S (dN B c h) es jT:=by
 obtain⟨b,a,a1,a2,a3,a4,jT,rfl,a7,a8,a5,a6⟩:=s.ob i _ e rfl;exact⟨b,jT,a1,a4,a7,a8,a5,a6⟩
theorem aEx (s:VS P B Sb c h S){x:V}{w:Value} (r:fO c S (dN B c h) x w){Kv:KV}{K:VK} (k:KR P B Sb c h S Kv K) (hv:MC x h Kv):aE0 w S K=true:=by
 unfold MC at hv;split at hv
 ·rename_i i
  cases r with
  | ptr hZ=>
   rename_i bb;split at hv
   ·rename_i m since seen last ei
    split at hv
    ·rename_i es bs ck em
     obtain⟨hbs,RO,hv1,hv2⟩:=hv;obtain⟨b,rr,a1,a2,a3⟩:=s.iter ei;rw [hZ]at a1;injection a1 with a1;subst a1;obtain⟨b2,jT,c1,c2,c3,c4,c5⟩:=s.wS em;rw [a3]at c1;injection c1 with c1;subst c1;show rV S.h _ _=true;have a2':S.h.get _=some (.iter (some rr) since seen last):=a2;have c2':S.h.get rr=some (.map jT ck):=c2;rw [nH,a2'];show rV S.h rr _=true;rw [nH,c2']
     have h1:xU (fun e:MapEntry=>Nat.blt e.born since) jT=true:=by
      rw [nG,dL];intro e he;exact nT (hbs _ (by rw [<-c3];exact kS.2 ⟨e,he,rfl⟩))
     simp only [h1,nT RO];rw [aBc]
     have rY:(jT.filter (fun e=> !seen.contains e.born)).all (fun e=>FV seen [e.born] fun seen=>tK S bb (.iter (some rr) since seen ck) fun S=>K (.tuple ⟨[.bool true,e.key,e.val]⟩) S)=true:=by
      rw [dL];intro e he;obtain⟨he1,he2⟩:=kA.1 he;obtain⟨j,hj,rfl⟩:=Bv he1;have Uj:j<es.length:=by rw [c5.1];exact hj
      have hns:¬jT[j].born∈seen:=by simpa using he2
      rw [nI,iB];obtain⟨s1,f1⟩:=s.Xb ei rfl hZ (o:= .iter m since (seen++[jT[j].born]) ck) rfl (ao:= .iter (some rr) since (seen++[jT[j].born]) ck) fun S' C' f=>⟨rr,rfl,a3⟩;obtain⟨q1,q2⟩:=c5.2 j _ _ (aQ Uj) (aQ hj);refine k c _ _ _ _ (.refl c) f1 s1 ?_ (hv2 j es[j] jT[j].born (aQ Uj) (by rw [<-c3,dJ,aQ hj];rfl) hns);have rl:mA c (S.set bb (.iter (some rr) since (seen++[jT[j].born]) ck)) (dN B c (aJ h i (.iter m since (seen++[jT[j].born]) ck))) [.bool true,es[j].1,es[j].2] [.bool true,jT[j].key,jT[j].val]:= .cons .bool (.cons (q1.mono (.refl c) f1) (.cons (q2.mono (.refl c) f1) .nil));exact .tuple rl.len rl.rd
     cases hf:jT.filter (fun e=> !seen.contains e.born)with
     | nil=>
      have Th:∀b∈bs,b∈seen:=by
       intro b hb;rw [<-c3]at hb;obtain⟨e,he,rfl⟩:=kS.1 hb;by_cases hc:e.born∈seen
       ·exact hc
       ·have:e∈jT.filter (fun e=> !seen.contains e.born):=kA.2 ⟨he,by simpa using hc⟩
        rw [hf]at this;cases this
      obtain⟨s1,hL⟩:=s.aRw em rfl a3 (o:= .map es) rfl fun a C' ha q=>by
       obtain⟨es2,q1,q2,q3,q4,q5⟩:=q;exact⟨es2,ck,q1,q3,q4,q5⟩
      refine k c _ _ _ _ (.refl c) (by rw [hL];exact .refl _ _) s1 ?_ (hv1 Th);have rl:mA c S (dN B c (aJ h m (.map es))) [.bool false] [.bool false]:= .cons .bool .nil;exact .tuple rl.len rl.rd
     | cons e t=>
      rw [hf]at rY;simp only [nG];exact rY
    ·cases hv
   ·cases hv
 ·cases hv
theorem aKS{l:List Nat}{b:Nat}{k:Nat->Bool} (h:l.getLast?=some b):aA6 l k=k b:=by
 induction l with
 | nil=>cases h
 | cons n t ih=>
  cases t with
  | nil=>injection h with h;subst h;rfl
  | cons m t=>
   rw [List.getLast?_cons_cons]at h;exact ih h
theorem aEE{n:Nat}{k:Nat->MapEntry->Bool}:∀{es:List MapEntry} {j i:Nat} {e:MapEntry},(es.map (·.born)).Pairwise (· < ·)->es[j]? =some e->e.born=n->NM n k es i=k (i+j) e:=by
 intro es;induction es with
 | nil=>intro j i e _ h;simp at h
 | cons a es ih=>
  intro j i e hp he hb;rw [Ca,List.pairwise_cons]at hp;cases j with
  | zero=>
   simp at he;subst he;show(match Nat.beq a.born n with | true=>k i a | false=>bV (Nat.succ i) fun i=>NM n k es i)=_;have:Nat.beq a.born n=true:=by rw [hb];simp
   rw [this,VZ]
  | succ j=>
   have he:es[j]? =some e:=by simpa using he
   have hlt:=hp.1 e.born (kS.2 ⟨e,BJ he,rfl⟩);show(match Nat.beq a.born n with | true=>k i a | false=>bV (Nat.succ i) fun i=>NM n k es i)=_;have:Nat.beq a.born n=false:=by cases hq:Nat.beq a.born n with | false=>rfl | true=>have:=dI hq;omega
   rw [this];show bV (Nat.succ i) (fun i=>NM n k es i)=_;rw [bH];show NM n k es (Nat.succ i)=_;rw [ih hp.2 he hb]
   congr 1;omega
theorem aKT{n:Nat}{k:Nat->MapEntry->Bool}{es:List MapEntry}{j:Nat}{e:MapEntry} (hp:(es.map (·.born)).Pairwise (· < ·)) (he:es[j]? =some e) (hb:e.born=n):Vk n es k=k j e:=by
 have:=aEE (k:=k) (i:=0) hp he hb;rw [dX]at this;exact this
theorem aCA (s:VS P B Sb c h S){x:V}{w:Value} (r:fO c S (dN B c h) x w){Kv:KV}{K:VK} (k:KR P B Sb c h S Kv K) (hv:TH x h Kv):Ya w S K=true:=by
 unfold TH at hv;split at hv
 ·rename_i i
  cases r with
  | ptr hZ=>
   rename_i bb;split at hv
   ·rename_i m since seen last ei
    split at hv
    ·rename_i es bs ck em
     obtain⟨rfl,hp,j,e,b0,h1,h2,h3,hv⟩:=hv;obtain⟨b,rr,a1,a2,a3⟩:=s.iter ei;rw [hZ]at a1;injection a1 with a1;subst a1;obtain⟨b2,jT,c1,c2,c3,c4,c5⟩:=s.wS em;rw [a3]at c1;injection c1 with c1;subst c1;show rV S.h _ _=true;have a2':S.h.get _=some (.iter (some rr) since seen ck):=a2;have c2':S.h.get rr=some (.map jT ck):=c2;rw [nH,a2'];show rV S.h rr _=true;rw [nH,c2'];have hcc:Nat.beq ck ck=true:=by simp
     have hlt:aA6 seen (fun b=>Vk b jT fun _ e=>K (.tuple ⟨[e.key,e.val]⟩) S)=Vk b0 jT fun _ e=>K (.tuple ⟨[e.key,e.val]⟩) S:=aKS h3;simp only [hcc];rw [hlt];have hj:j<jT.length:=by rw [<-c5.1];exact(dK.1 h1).1
     have hb:jT[j].born=b0:=by
      rw [<-c3,dJ,aQ hj]at h2;exact Option.some.inj h2
     rw [aKT c4.1 (aQ hj) hb];obtain⟨q1,q2⟩:=c5.2 j _ _ h1 (aQ hj);have rl:mA c S (dN B c h) [e.1,e.2] [jT[j].key,jT[j].val]:= .cons q1 (.cons q2 .nil);exact k.here s (.tuple rl.len rl.rd) hv
    ·cases hv
   ·cases hv
 ·cases hv
theorem aKG{op:BinOp}{t:TypeId}{a b:V}{u w:Value} (r:fO c S C a u) (q:fO c S C b w){Kv:V->Prop}{K:Value->Bool} (k:∀v w,fO c S C v w->Kv v->K w=true) (hv:aPz P op t a b Kv):aIQ P op t u w K=true:=by
 rw [SU];unfold aPz at hv;split at hv
 ·rename_i l hl
  cases r<;>try (cases hv;done)
  rename_i xs xs' la rxa;cases q<;>try (cases hv;done)
  rename_i ys ys' lb ryb;obtain⟨ox,oy,hv⟩:=hv;unfold Rk at hl;split at hl
  ·cases hl
  ·split at hl
   ·rename_i fs hfs
    split at hl
    ·rename_i l' Tg
     injection hl with hl;injection hl with hl;subst hl
     have eq:∀kk:Bool->Bool,∃e:Bool,(e=true↔xs=ys)/\pY P t (.agg ⟨xs'⟩) (.agg ⟨ys'⟩) kk=kk e:=fun kk=>by
      obtain⟨e,g1,g2⟩:=aKP (k:=kk) Tg ⟨la,rxa⟩ ⟨lb,ryb⟩ ox oy;refine⟨e,g1,?_⟩;unfold pY;simp only [hfs];exact g2
     cases op<;>first | (cases hv;done) | skip
     ·show pY P t (.agg ⟨xs'⟩) (.agg ⟨ys'⟩) (fun e=>oY e K)=true
      obtain⟨e,g1,g2⟩:=eq fun e=>oY e K;rw [g2,rZ];cases e with
      | true=>exact k _ _ .bool (hv.1 (g1.1 rfl))
      | false=>exact k _ _ .bool (hv.2 fun h=>by have:=g1.2 h;cases this)
     ·show pY P t (.agg ⟨xs'⟩) (.agg ⟨ys'⟩) (fun e=>oY (!e) K)=true
      obtain⟨e,g1,g2⟩:=eq fun e=>oY (!e) K;rw [g2,rZ];cases e with
      | true=>exact k _ _ .bool (hv.1 (g1.1 rfl))
      | false=>exact k _ _ .bool (hv.2 fun h=>by have:=g1.2 h;cases this)
    ·cases hl
   ·cases hl
 ·cases hv
end
end Go.Am
