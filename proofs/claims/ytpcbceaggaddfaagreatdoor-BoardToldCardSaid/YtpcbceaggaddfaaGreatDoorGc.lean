/- AM: the operations with their types made out: the same as they are. -/
import Derived.Test.YtpcbceaggaddfaaGreatDoorGb

noncomputable section
set_option maxRecDepth 100000
set_option linter.unusedVariables false
namespace Go.Am
open Go.RowKit Go.MapKept
section
variable{P:Program}
theorem WS{t:TypeId} (h:sY P t=some false) (a:Value) (S:St) (K:VK):GQ P t a S K=rLd a S K:=by
 unfold GQ rLd;simp only [h]<;>rfl
theorem WT{t:TypeId}{n:Nat} (h:sY P t=some true) (hn:bP P t=some n) (a:Value) (S:St) (K:VK):GQ P t a S K=aEo n a S K:=by
 unfold GQ aEo;simp only [h,hn]<;>rfl
theorem Sq{t:TypeId}{n:Nat} (hn:bP P t=some n) (a x:Value) (S:St) (k:St->Bool):QG P t a x S k=rSt n a x S k:=by
 unfold QG rSt;simp only [hn]<;>rfl
theorem Ss{t:TypeId}{z:List Value} (hz:sH P t=some z) (hf:pW bA z=true) (S:St) (K:VK):LF P t S K=WU z t S K:=by
 unfold LF WU;simp only [hz,hf]
theorem TH{s:TypeId}{f:Nat}{fd:Field}{n:Nat} (hf:wR P s f=some fd) (hn:bP P fd.type=some (n+1)) (x:Value) (K:Value->Bool):yN P s x f K=aEp fd.offset x K:=by
 unfold yN aEp;simp only [hf,hn]<;>rfl
theorem El{t:TypeId}{f:Nat}{fd:Field} (hf:wR P t f=some fd) (h:sY P fd.type=some false) (x:Value) (K:Value->Bool):LE P t x f K=Em fd.offset x K:=by
 unfold LE Em;simp only [hf,Ij,h]<;>rfl
theorem En{t:TypeId}{f:Nat}{fd:Field}{n:Nat} (hf:wR P t f=some fd) (h:sY P fd.type=some true) (hn:bP P fd.type=some n) (x:Value) (K:Value->Bool):LE P t x f K=TI fd.offset n x K:=by
 unfold LE TI;simp only [hf,Ij,h,hn]<;>rfl
theorem TJ{t e:TypeId}{n:Nat} (he:isSlice P t=some e) (hn:bP P e=some n) (x ix:Value) (K:Value->Bool):rF P t x ix K=aHi n x ix K:=by
 unfold rF aHi;simp only [he,hn,YI he];cases ix<;>first | rfl | skip
 rename_i kk i;cases i<;>first | rfl | skip
 rename_i i;cases x<;>first | rfl | skip
 ·rename_i b;cases b<;>first | rfl | (rename_i a;obtain⟨b,o,sp⟩:=a;cases sp<;>rfl)
 ·rename_i b len cap;cases b with
  | none=>rfl
  | some a=>
   obtain⟨b,o,sp⟩:=a
   match sp with
   | none=>simp only;cases Nat.blt i len<;>rfl
   | some 0=>simp only;cases Nat.blt i len<;>rfl
   | some (_+1)=>rfl
theorem aEq{t e:TypeId} (he:isSlice P t=some e) (x:Value) (S:St) (K:VK):mY P .len [t] [x] S K=aBe x fun v=>K v S:=by
 have hu:=YI he;have hm:BG P t=none:=by unfold BG;rw [hu]
 cases x<;>simp only [mY,aBe,he,hu,hm]
theorem aEr{t:TypeId} (hu:P.underlying t=some .string) (x:Value) (S:St) (K:VK):mY P .len [t] [x] S K=Su x fun v=>K v S:=by
 have hs:isSlice P t=none:=by unfold isSlice;rw [hu]
 have hm:BG P t=none:=by unfold BG;rw [hu]
 cases x<;>simp only [mY,Su,hs,hu,hm]
theorem WV{sT xT el:TypeId}{info:TypeInfo}{n:Nat}{z:Value} (h1:isSlice P sT=some el) (h2:Cq (P.underlying xT)=true) (h3:P.info? el=some info) (h4:info.size=n+1) (h5:info.zero=some z) (h6:Nat.beq z.cells.size (n+1)=true)
 (s x:Value) (S:St) (K:VK):oF P [sT,xT] s x S K=Sv P el (n+1) info.bytes s x S K:=by
 unfold oF Sv;simp only [h1,h2,h3,h4,h5];cases s<;>simp only [h6]<;>rfl
end
def fbk (o:Oper):OpW:=⟨fun E A S K=>uQ E o A S K⟩
structure PtW where
 f:aM->(List (Nat×Nat×Value)->Bool)->Bool
def DY (place:Nat->Option (Nat×Nat)) (ps:List (Nat×Operand)):PtW:=
 fE (β:=PtW) ⟨fun _ k=>k []⟩ (fun p _ ih=>match place p.1 with
  | some (off,size)=>⟨fun A k=>(vC p.2).f A fun v=>ih.f A fun l=>k ((off,size,v)::l)⟩
  | none=>⟨fun _ _=>false⟩) ps
def Af (place:Nat->Option (Nat×Nat)) (p:Nat×Value):Nat×Nat×Value:=match place p.1 with | some (off,size)=>(off,size,p.2) | none=>(0,0,p.2)
theorem Yp (place:Nat->Option (Nat×Nat)) (A:aM):∀(ps:List (Nat×Operand)) (k:List (Nat×Nat×Value)->Bool),(∀p∈ps,(place p.1).isSome=true)->(DY place ps).f A k=BE A ps fun l=>k (l.map (Af place)):=by
 intro ps;induction ps with
 | nil=>intro k _;rfl
 | cons p ps ih=>
  intro k h;have hp:=h p (.head _);obtain⟨⟨off,size⟩,hq⟩:=VH.1 hp
  have e1:DY place (p::ps)=⟨fun A k=>(vC p.2).f A fun v=>(DY place ps).f A fun l=>k ((off,size,v)::l)⟩:=by
   unfold DY;rw [aO];simp only [hq]
  rw [e1];show(vC p.2).f A _=rQ A p.2 fun v=>BE A ps fun l=>k (((p.1,v)::l).map (Af place));rw [kB]
  congr 1
  funext v
  have e:∀l:List (Nat×Value),((p.1,v)::l).map (Af place)=(off,size,v)::l.map (Af place):=fun l=>by simp [Af,hq]
  simp only [e];exact ih (fun l=>k ((off,size,v)::l)) (fun q hq=>h q (.tail _ hq))
theorem Mp (A:aM):∀(ps:List (Nat×Operand)) (k k':List (Nat×Value)->Bool),(∀l,l.map Prod.fst=ps.map Prod.fst->k l=k' l)->BE A ps k=BE A ps k':=by
 intro ps;induction ps with
 | nil=>intro k k' h;exact h [] rfl
 | cons p ps ih=>
  intro k k' h;show(rQ A p.2 fun v=>BE A ps fun l=>k ((p.1,v)::l))=rQ A p.2 fun v=>BE A ps fun l=>k' ((p.1,v)::l)
  congr 1
  funext v
  exact ih _ _ fun l hl=>h _ (by simp [hl])
theorem aHj (place:Nat->Option (Nat×Nat)) (k:List Value->Bool):∀(l:List (Nat×Value)) (cs:List Value),(∀p∈l,(place p.1).isSome=true)->PA place l cs k=MK (l.map (Af place)) cs k:=by
 intro l;induction l with
 | nil=>intro cs _;rfl
 | cons p l ih=>
  intro cs h;obtain⟨⟨off,size⟩,hq⟩:=VH.1 (h p (.head _))
  have e1:PA place (p::l) cs k=match place p.1 with
   | some (off,size)=>nW p.2 fun new=>zZ new fun m=>match Nat.beq m size with
    | true=>qA off new cs fun cs=>PA place l cs k
    | false=>false
   | none=>false:=rfl
  have e2:MK ((off,size,p.2)::l.map (Af place)) cs k=nW p.2 fun new=>zZ new fun m=>match Nat.beq m size with
   | true=>qA off new cs fun cs=>MK (l.map (Af place)) cs k
   | false=>false:=rfl
  have e3:(p::l).map (Af place)=(off,size,p.2)::l.map (Af place):=by simp [Af,hq]
  have ih':(fun cs=>PA place l cs k)=fun cs=>MK (l.map (Af place)) cs k:=by funext cs;exact ih cs fun q hq=>h q (.tail _ hq)
  rw [e1,e3,e2,hq,ih']
theorem Mq (place:Nat->Option (Nat×Nat)) (A:aM) (ps:List (Nat×Operand)) (cs:List Value) (k:List Value->Bool) (h:∀p∈ps,(place p.1).isSome=true):
 (BE A ps fun l=>PA place l cs k)=(DY place ps).f A fun l=>MK l cs k:=by
 rw [Yp place A ps _ h];refine Mp A ps _ _ fun l hl=>aHj place k l cs fun p hp=>?_;have:p.1∈ps.map Prod.fst:=by rw [<-hl];exact mA.2 ⟨p,hp,rfl⟩
 obtain⟨q,hq,e⟩:=mA.1 this;rw [<-e];exact h q hq
def aEs (P:Program) (c:Call):OpW:=
 match c.callee with
 | .builtin .len=>match c.argTypes.toList,c.args.toList with
  | [t],[a]=>match isSlice P t,P.underlying t with
   | some _,_=>⟨fun _ A S K=>(vC a).f A fun v=>aBe v fun v=>K v S⟩
   | none,some .string=>⟨fun _ A S K=>(vC a).f A fun v=>Su v fun v=>K v S⟩
   | _,_=>LY P c
  | _,_=>LY P c
 | .builtin .append=>match c.argTypes.toList,c.args.toList with
  | [sT,xT],[a,b]=>match isSlice P sT,Cq (P.underlying xT)with
   | some el,true=>match P.info? el with
    | some info=>match info.size,info.zero with
     | n+1,some z=>match Nat.beq z.cells.size (n+1)with
      | true=>⟨fun _ A S K=>(vC a).f A fun a=>(vC b).f A fun b=>Sv P el (n+1) info.bytes a b S K⟩
      | false=>LY P c
     | _,_=>LY P c
    | none=>LY P c
   | _,_=>LY P c
  | _,_=>LY P c
 | .builtin _=>LY P c
 | .value f=>⟨fun E A S K=>(Xw c.args.toList).f A fun args=>(vC f).f A fun f=>aJ4 E.call E.round f args S K⟩
 | .invoke r m=>⟨fun E A S K=>(Xw c.args.toList).f A fun args=>(vC r).f A fun v=>aOn P E.call v m args S K⟩
theorem aEt (E:Env) (c:Call) (A:aM) (S:St) (K:VK):(aEs E.P c).f E A S K=lU E A c S K:=by
 unfold aEs;split
 ·rename_i hc
  split
  ·rename_i t a ht ha
   split
   ·rename_i _ _ e hs
    unfold lU;rw [hc,ha,ht];simp only [kB,LD,aO,rR,aEq hs]
   ·rename_i _ _ hs hu
    unfold lU;rw [hc,ha,ht];simp only [kB,LD,aO,rR,aEr hu]
   ·exact xA E c A S K
  ·exact xA E c A S K
 ·rename_i hc
  split
  ·rename_i sT xT a b ht ha
   split
   ·rename_i el hs hx
    split
    ·rename_i info hi
     split
     ·rename_i n z hn hz
      split
      ·rename_i WG
       unfold lU;rw [hc,ha,ht];simp only [kB,LD,aO,rR]
       congr 1;funext a;congr 1;funext b
       exact(WV hs hx hi hn hz WG a b S K).symm
      ·exact xA E c A S K
     ·exact xA E c A S K
    ·exact xA E c A S K
   ·exact xA E c A S K
  ·exact xA E c A S K
 ·exact xA E c A S K
 ·rename_i f hc
  unfold lU;rw [hc];simp only [ST,kB]<;>rfl
 ·rename_i r m hc
  unfold lU;rw [hc];simp only [ST,kB]<;>rfl
def Yq (P:Program) (o:Oper):OpW:=
 match o.op with
 | .pick c a b=>⟨fun E A S K=>(vC c).f A fun c=>(vC a).f A fun a=>(vC b).f A fun b=>shut E.most (aJb c a b fun v=>K v S)⟩
 | .alloc t=>match sH P t with
  | some z=>match pW bA z with
   | true=>⟨fun _ _ S K=>WU z t S K⟩
   | false=>fbk o
  | none=>fbk o
 | .build t ps=>match sH P t,P.underlying t with
  | some zero,some (.struct fields)=>match placesOf P fields.toList with
   | some pl=>match pW bA zero,ps.toList.all fun p=>(pl[p.1]?).isSome with
    | true,true=>⟨fun _ A S K=>(DY (pl[·]?) ps.toList).f A fun l=>Yr zero l fun v=>K v S⟩
    | _,_=>fbk o
   | none=>fbk o
  | some zero,some (.array _ elem)=>match bP P elem with
   | some size=>match pW bA zero with
    | true=>⟨fun _ A S K=>(DY (fun i=>some (i*size,size)) ps.toList).f A fun l=>Yr zero l fun v=>K v S⟩
    | false=>fbk o
   | none=>fbk o
  | _,_=>fbk o
 | .buildSlice t len ps=>match isSlice P t with
  | some elem=>match bP P elem,sH P elem with
   | some (size+1),some zero=>match Nat.ble (len*(size+1)) 16777216,Nat.beq zero.length (size+1)with
    | true,true=>match pW bA zero with
     | true=>⟨fun _ A S K=>Qd zero len fun cs=>(DY (fun i=>some (i*(size+1),size+1)) ps.toList).f A fun l=>MK l cs fun cs=>sP S (.cells cs elem .exact) fun i S=>K (.slice (some ⟨i,0,none⟩) len len) S⟩
     | false=>fbk o
    | _,_=>fbk o
   | _,_=>fbk o
  | none=>fbk o
 | .load t a=>match sY P t,bP P t with
  | some false,_=>⟨fun _ A S K=>(vC a).f A fun a=>rLd a S K⟩
  | some true,some n=>⟨fun _ A S K=>(vC a).f A fun a=>aEo n a S K⟩
  | _,_=>fbk o
 | .store t a x=>match bP P t with
  | some n=>⟨fun _ A S K=>(vC a).f A fun a=>(vC x).f A fun x=>rSt n a x S fun S=>K undef S⟩
  | none=>fbk o
 | .nilCheck x=>⟨fun _ A S K=>(vC x).f A fun v=>aHk P v fun v=>K v S⟩
 | .binOp op t x y _=>⟨fun _ A S K=>(vC x).f A fun a=>(vC y).f A fun b=>aEu P op t a b fun v=>K v S⟩
 | .convert s d x=>match P.underlying s,P.underlying d with
  | some (.int _),some (.int k)=>⟨fun _ A S K=>(vC x).f A fun a=>aEv k a fun v=>K v S⟩
  | _,_=>Pv P o
 | .fieldAddr s x f=>match wR P s f with
  | some fd=>match bP P fd.type with
   | some (_+1)=>⟨fun _ A S K=>(vC x).f A fun x=>aEp fd.offset x fun v=>K v S⟩
   | _=>Pv P o
  | none=>Pv P o
 | .field t x f=>match wR P t f with
  | some fd=>match sY P fd.type,bP P fd.type with
   | some false,_=>⟨fun _ A S K=>(vC x).f A fun x=>Em fd.offset x fun v=>K v S⟩
   | some true,some n=>⟨fun _ A S K=>(vC x).f A fun x=>TI fd.offset n x fun v=>K v S⟩
   | _,_=>Pv P o
  | none=>Pv P o
 | .indexAddr t x ix=>match isSlice P t with
  | some el=>match bP P el with
   | some n=>⟨fun _ A S K=>(vC x).f A fun x=>(vC ix).f A fun ix=>aHi n x ix fun v=>K v S⟩
   | none=>Pv P o
  | none=>Pv P o
 | .index t x ix=>match P.underlying t with
  | some .string=>⟨fun _ A S K=>(vC x).f A fun x=>(vC ix).f A fun ix=>Mr x ix fun v=>K v S⟩
  | _=>Pv P o
 | .extract t i=>⟨fun _ A S K=>(vC t).f A fun v=>aEw i v fun v=>K v S⟩
 | .typeAssert x _ as ok=>⟨fun _ A S K=>(vC x).f A fun v=>aBf P as ok v fun v=>K v S⟩
 | .call c=>aEs P c
 | _=>Pv P o
theorem aBg{P:Program}{s d:TypeId}{j k:IntKind} (hs:P.underlying s=some (.int j)) (hd:P.underlying d=some (.int k)) (x:Value) (S:St) (K:VK):XX P s d x S K=aEv k x fun v=>K v S:=by
 cases x<;>simp only [XX,aEv,hs,hd];rename_i b n c;cases b with
 | none=>rfl
 | some a=>obtain⟨b,o,sp⟩:=a;match sp with
  | none=>rfl
  | some 0=>rfl
  | some (_+1)=>rfl
theorem Sw{P:Program}{t:TypeId} (h:P.underlying t=some .string) (x ix:Value) (K:Value->Bool):WC P t x ix K=Mr x ix K:=by
 unfold WC Mr;simp only [h];cases ix<;>first | rfl | skip
 rename_i kk i;cases i<;>first | rfl | skip
 cases x<;>rfl
theorem ML (E:Env) (o:Oper) (A:aM) (S:St) (K:VK):(Yq E.P o).f E A S K=uQ E o A S K:=by
 unfold Yq;split
 ·rename_i c a b h;unfold uQ;rw [h];simp only [kB,Bh,aJb]<;>rfl
 ·rename_i t h
  split
  ·rename_i z hz
   split
   ·rename_i hf;unfold uQ;rw [h];exact(Ss hz hf S K).symm
   ·rfl
  ·rfl
 ·rename_i t ps h
  split
  ·rename_i zero fields hz hu
   split
   ·rename_i pl hp
    split
    ·rename_i hf ha
     unfold uQ;rw [h];simp only [Cp,hz,hu,hp,hf];refine(Mq (pl[·]?) A ps.toList zero (fun cs=>K (.agg ⟨cs⟩) S) ?_).symm;intro p hp';exact dL.1 ha p hp'
    ·rfl
   ·rfl
  ·rename_i zero n elem hz hu
   split
   ·rename_i size hs
    split
    ·rename_i hf
     unfold uQ;rw [h];simp only [Cp,hz,hu,hs,hf];exact(Mq (fun i=>some (i*size,size)) A ps.toList zero (fun cs=>K (.agg ⟨cs⟩) S) (fun p _=>rfl)).symm
    ·rfl
   ·rfl
  ·rfl
 ·rename_i t len ps h
  split
  ·rename_i elem hs
   split
   ·rename_i size zero hz Ps
    split
    ·rename_i h1 h2
     split
     ·rename_i hf
      unfold uQ;rw [h];simp only [vV,hs,hz,Ps,h1,h2,hf]
      congr 1;funext cs
      exact(Mq (fun i=>some (i*(size+1),size+1)) A ps.toList cs _ (fun p _=>rfl)).symm
     ·rfl
    ·rfl
   ·rfl
  ·rfl
 ·rename_i t a h
  split
  ·rename_i h1;unfold uQ;rw [h];simp only [kB,WS h1]
  ·rename_i n h1 h2;unfold uQ;rw [h];simp only [kB,WT h1 h2]
  ·rfl
 ·rename_i t a x h
  split
  ·rename_i n h1;unfold uQ;rw [h];simp only [kB,Sq h1]
  ·rfl
 ·rename_i x h;unfold uQ;rw [h];simp only [kB,aHk]<;>rfl
 ·rename_i op t x y yt h;unfold uQ;rw [h];simp only [kB,IY]
 ·rename_i s d x h
  split
  ·rename_i j k h1 h2;unfold uQ;rw [h];simp only [kB,aBg h1 h2]
  ·exact yU E o A S K
 ·rename_i s x f h
  split
  ·rename_i fd h1
   split
   ·rename_i n h2;unfold uQ;rw [h];simp only [kB,TH h1 h2]
   ·exact yU E o A S K
  ·exact yU E o A S K
 ·rename_i t x f h
  split
  ·rename_i fd h1
   split
   ·rename_i h2;unfold uQ;rw [h];simp only [kB,El h1 h2]
   ·rename_i n h2 h3;unfold uQ;rw [h];simp only [kB,En h1 h2 h3]
   ·exact yU E o A S K
  ·exact yU E o A S K
 ·rename_i t x ix h
  split
  ·rename_i el h1
   split
   ·rename_i n h2;unfold uQ;rw [h];simp only [kB,TJ h1 h2]
   ·exact yU E o A S K
  ·exact yU E o A S K
 ·rename_i t x ix h
  split
  ·rename_i h1;unfold uQ;rw [h];simp only [kB,Sw h1]
  ·exact yU E o A S K
 ·rename_i t i h;unfold uQ;rw [h];simp only [kB,aEw]<;>rfl
 ·rename_i x xt as ok h;unfold uQ;rw [h];simp only [kB,aBf]<;>rfl
 ·rename_i c h;unfold uQ;rw [h];exact aEt E c A S K
 ·exact yU E o A S K
def aEx (v:Value) (T:Tm) (i:Nat) (k:Tm->Bool):Bool:=match T with
 | ⟨t,n⟩=>match Nat.blt i n with
  | true=>OJ v (Nat.succ i) t i fun t=>k ⟨t,n⟩
  | false=>false
theorem aEy (v:Value) (T:Tm) (i:Nat) (k:Tm->Bool):aEx v T i k=qW v T i k:=by cases T;rfl
def aJ5 (A:aM) (d:Tmp) (v:Value) (k:aM->Bool):Bool:=match A with
 | ⟨T,m,g⟩=>aEx v T d fun T=>k ⟨T,m,g⟩
theorem aBh (A:aM) (d:Tmp) (v:Value) (k:aM->Bool):aJ5 A d v k=qW v A.tmps d fun ts=>k ⟨ts,A.marks,A.g⟩:=by
 obtain⟨T,m,g⟩:=A;show aEx v T d (fun T=>k ⟨T,m,g⟩)=_;rw [aEy]
def aEz (P:Program) (o:Oper):Dr:=
 match o.dst with
 | some d=>⟨fun E A S k=>(Yq P o).f E A S fun v S=>aJ5 A d v fun A=>k A S⟩
 | none=>⟨fun E A S k=>(Yq P o).f E A S fun _ S=>k A S⟩
def doX (P:Program) (ops:Array Oper) (o:Oper):Dr:=
 match o.guard with
 | none=>aEz P o
 | some (j,w)=>match ops[j]? with
  | some o'=>match o'.dst with
   | some g=>match o.dst with
    | some d=>⟨fun E A S k=>NO A.tmps g fun b=>shut E.most (Mt w b (fun k=>(Yq P o).f E A S k) S fun v S=>aJ5 A d v fun A=>k A S)⟩
    | none=>⟨fun E A S k=>NO A.tmps g fun b=>shut E.most (Mt w b (fun k=>(Yq P o).f E A S k) S fun _ S=>k A S)⟩
   | none=>⟨fun E A S k=>QJ E ops o A S k⟩
  | none=>⟨fun E A S k=>QJ E ops o A S k⟩
theorem aEA (E:Env) (o:Oper) (A:aM) (S:St) (k:KS):(aEz E.P o).f E A S k=uQ E o A S fun v S=>lE A o.dst v fun A=>k A S:=by
 unfold aEz lE;cases o.dst<;>simp only [ML,aBh]
theorem Eo (E:Env) (ops:Array Oper) (o:Oper) (A:aM) (S:St) (k:KS):(doX E.P ops o).f E A S k=QJ E ops o A S k:=by
 unfold doX;cases hg:o.guard with
 | none=>
  simp only [aEA];unfold QJ wS;rw [hg];rfl
 | some jw=>
  obtain⟨j,w⟩:=jw;simp only;cases ho:ops[j]? with
  | none=>rfl
  | some o'=>
   simp only;cases hd':o'.dst with
   | none=>rfl
   | some g=>
    simp only;cases hd:o.dst with
    | none=>
     unfold QJ wS lE;simp only [hg,ho,hd',hd,ML,Bh,Mt,YZ]<;>rfl
    | some d=>
     unfold QJ wS lE;simp only [hg,ho,hd',hd,ML,aBh,Bh,Mt,YZ]<;>rfl
def aJ6 (P:Program) (ops:Array Oper) (l:List Oper):Dr:=
 fE (β:=Dr) ⟨fun _ A S k=>k A S⟩ (fun o _ ih=>⟨fun E A S k=>(doX P ops o).f E A S fun A S=>ih.f E A S k⟩) l
theorem aHl (E:Env) (ops:Array Oper):∀(l:List Oper) (A:aM) (S:St) (k:KS),(aJ6 E.P ops l).f E A S k=OL E ops l A S k:=by
 intro l;induction l with
 | nil=>intro A S k;rfl
 | cons o l ih=>
  intro A S k;show(doX E.P ops o).f E A S (fun A S=>(aJ6 E.P ops l).f E A S k)=QJ E ops o A S fun A S=>OL E ops l A S k;rw [Eo]
  congr 1
  funext A S
  exact ih A S k
def aCr (o:Oper) (d:Tmp) (ops:Array Oper) (ih:ChW):ChW:=⟨fun E A S k=>NO A.tmps d fun u=>wS ops o A fun b=>dF b (uQ E o A S fun v _=>match JY v u with | true=>ih.f E A S k | false=>false) (match u with | .tuple ⟨[]⟩=>ih.f E A S k | _=>false)⟩
def Ep (P:Program) (ops:Array Oper) (l:List Nat):ChW:=
 fE (β:=ChW) ⟨fun _ _ _ k=>k⟩ (fun i _ ih=>match ops[i]? with
  | some o=>match o.dst with
   | some d=>match o.guard with
    | none=>⟨fun E A S k=>NO A.tmps d fun u=>(Yq P o).f E A S fun v _=>Jh v u (ih.f E A S k)⟩
    | some (j,w)=>match ops[j]? with
     | some o'=>match o'.dst with
      | some g=>⟨fun E A S k=>NO A.tmps d fun u=>NO A.tmps g fun b=>shut E.most (Mu w b u (fun k=>(Yq P o).f E A S fun v _=>Jh v u k) (ih.f E A S k))⟩
      | none=>aCr o d ops ih
     | none=>aCr o d ops ih
   | none=>⟨fun _ _ _ _=>false⟩
  | none=>⟨fun _ _ _ _=>false⟩) l
theorem aCs (P:Program) (ops:Array Oper) (i:Nat) (l:List Nat):Ep P ops (i::l)=match ops[i]? with
 | some o=>match o.dst with
  | some d=>match o.guard with
   | none=>⟨fun E A S k=>NO A.tmps d fun u=>(Yq P o).f E A S fun v _=>Jh v u ((Ep P ops l).f E A S k)⟩
   | some (j,w)=>match ops[j]? with
    | some o'=>match o'.dst with
     | some g=>⟨fun E A S k=>NO A.tmps d fun u=>NO A.tmps g fun b=>shut E.most (Mu w b u (fun k=>(Yq P o).f E A S fun v _=>Jh v u k) ((Ep P ops l).f E A S k))⟩
     | none=>aCr o d ops (Ep P ops l)
    | none=>aCr o d ops (Ep P ops l)
  | none=>⟨fun _ _ _ _=>false⟩
 | none=>⟨fun _ _ _ _=>false⟩:=rfl
theorem Mv (E:Env) (ops:Array Oper) (A:aM) (S:St) (k:Bool):∀(l:List Nat),(Ep E.P ops l).f E A S k=uL E ops A S l k:=by
 intro l;induction l with
 | nil=>rfl
 | cons i l ih=>
  rw [aCs,WM];cases hi:ops[i]? with
  | none=>rfl
  | some o=>
   simp only;cases hd:o.dst with
   | none=>rfl
   | some d=>
    simp only;cases hg:o.guard with
    | none=>
     simp only [ML,ih,wS,hg,Jh];rfl
    | some jw=>
     obtain⟨j,w⟩:=jw;simp only;cases hj:ops[j]? with
     | none=>simp only [aCr,ih]<;>rfl
     | some o'=>
      simp only;cases hd':o'.dst with
      | none=>simp only [aCr,ih]<;>rfl
      | some g=>simp only [ML,ih,wS,hg,hj,hd',Bh,Mu,YZ,Jh,aMG]<;>rfl
def aHm (P:Program) (ops:Array Oper) (i:Nat) (o:Oper):OpW:=match eO P ops i with
 | none=>Yq P o
 | some _=>⟨fun E A S K=>BI E ops i o A S K⟩
theorem aBi (E:Env) (ops:Array Oper) (i:Nat) (o:Oper) (A:aM) (S:St) (K:VK):(aHm E.P ops i o).f E A S K=BI E ops i o A S K:=by
 unfold aHm;cases h:eO E.P ops i with
 | none=>simp only [ML];unfold BI;rw [h]
 | some j=>rfl
def Ji (P:Program) (ops:Array Oper) (l:List Nat):Dr:=
 fE (β:=Dr) ⟨fun _ A S k=>k A S⟩ (fun i _ ih=>match ops[i]? with
  | some o=>⟨fun E A S k=>(aHm P ops i o).f E A S fun v S=>aJR o.dst v A fun A=>ih.f E A S k⟩
  | none=>⟨fun _ _ _ _=>false⟩) l
theorem TK (E:Env) (ops:Array Oper):∀(l:List Nat) (A:aM) (S:St) (k:KS),(Ji E.P ops l).f E A S k=mK E ops l A S k:=by
 intro l;induction l with
 | nil=>intro A S k;rfl
 | cons i l ih=>
  intro A S k;unfold Ji mK at ih ⊢;rw [aO,aO];cases ops[i]? with
  | none=>rfl
  | some o=>
   simp only [aBi,aBc]
   congr 1
   funext v S
   congr 1
   funext A
   exact ih A S k
def aEB (P:Program) (ops:Array Oper) (l:List (Nat×List Nat)):ChW:=
 fE (β:=ChW) ⟨fun _ _ _ k=>k⟩ (fun p _ ih=>match ops[p.1]? with
  | some o=>⟨fun E A S k=>Ya A o (dF ((Ji P ops p.2).f E A S fun A S=>(aHm P ops p.1 o).f E A S fun _ _=>true) (ih.f E A S k) false)⟩
  | none=>⟨fun _ _ _ _=>false⟩) l
theorem Mw (E:Env) (ops:Array Oper) (A:aM) (S:St) (k:Bool):∀(l:List (Nat×List Nat)),(aEB E.P ops l).f E A S k=KI E ops A S l k:=by
 intro l;induction l with
 | nil=>rfl
 | cons p l ih=>
  unfold aEB KI at ih ⊢;rw [aO,aO];cases ops[p.1]? with
  | none=>rfl
  | some o=>simp only [TK,aBi,ih]
def TL (P:Program) (ops:Array Oper) (l:List uC):Dr:=
 fE (β:=Dr) ⟨fun _ _ _ _=>false⟩ (fun s _ ih=>match s with
  | .take i=>match ops[i]? with
   | some o=>⟨fun E A S k=>(doX P ops o).f E A S fun A S=>ih.f E A S k⟩
   | none=>⟨fun _ _ _ _=>false⟩
  | .Ja vS lV D r yV=>match ops[r]? with
   | some o=>⟨fun E A S k=>(Ep P ops vS).f E A S ((aEB P ops lV).f E A S ((Ji P ops D).f E A S fun A S=>(doX P ops o).f E A S fun A S=>(Ep P ops yV).f E A S (ih.f E A S k)))⟩
   | none=>⟨fun _ _ _ _=>false⟩
  | .fin vS lV D=>⟨fun E A S k=>(Ep P ops vS).f E A S ((aEB P ops lV).f E A S ((Ji P ops D).f E A S k))⟩) l
theorem QW (E:Env) (ops:Array Oper):∀(l:List uC) (A:aM) (S:St) (k:KS),(TL E.P ops l).f E A S k=lC E ops l A S k:=by
 intro l;induction l with
 | nil=>intro A S k;rfl
 | cons s l ih=>
  intro A S k;unfold TL lC at ih ⊢;rw [aO,aO];cases s with
  | take i=>
   simp only;cases ops[i]? with
   | none=>rfl
   | some o=>simp only [Eo,ih]
  | Ja vS lV D r yV=>
   simp only;cases ops[r]? with
   | none=>rfl
   | some o=>simp only [Eo,Mv,Mw,TK,ih]
  | fin vS lV D=>simp only [Mv,Mw,TK]
def TM (P:Program) (ops:Array Oper) (l:List uC):Dr:=
 fE (β:=Dr) ⟨fun _ A S k=>k A S⟩ (fun s _ ih=>match s with
  | .take i=>match ops[i]? with
   | some o=>⟨fun E A S k=>(doX P ops o).f E A S fun A S=>ih.f E A S k⟩
   | none=>⟨fun _ _ _ _=>false⟩
  | .Ja vS lV D r yV=>match ops[r]? with
   | some o=>⟨fun E A S k=>(Ep P ops vS).f E A S ((aEB P ops lV).f E A S ((Ji P ops D).f E A S fun A S=>(doX P ops o).f E A S fun A S=>(Ep P ops yV).f E A S (ih.f E A S k)))⟩
   | none=>⟨fun _ _ _ _=>false⟩
  | .fin _ _ _=>⟨fun _ _ _ _=>false⟩) l
theorem Sx (E:Env) (ops:Array Oper):∀(l:List uC) (A:aM) (S:St) (k:KS),(TM E.P ops l).f E A S k=tV E ops l A S k:=by
 intro l;induction l with
 | nil=>intro A S k;rfl
 | cons s l ih=>
  intro A S k;unfold TM tV at ih ⊢;rw [aO,aO];cases s with
  | take i=>
   simp only;cases ops[i]? with
   | none=>rfl
   | some o=>simp only [Eo,ih]
  | Ja vS lV D r yV=>
   simp only;cases ops[r]? with
   | none=>rfl
   | some o=>simp only [Eo,Mv,Mw,TK,ih]
  | fin vS lV D=>rfl
def Ys (P:Program) (p:MI):Array Oper->Dr:=
 MI.rec (motive:=fun _=>Array Oper->Dr) (fun l ops=>TL P ops l) (fun l g t b _ ih ops=>⟨fun E A S k=>(TM P ops l).f E A S fun A S=>TG A t b ((ih (eK ops g b)).f E A S k)⟩) p
theorem aCt (E:Env):∀(p:MI) (ops:Array Oper) (A:aM) (S:St) (k:KS),(Ys E.P p ops).f E A S k=MJ E p ops A S k:=by
 intro p;induction p with
 | fin l=>intro ops A S k;exact QW E ops l A S k
 | cut l g t b r ih=>
  intro ops A S k;show(TM E.P ops l).f E A S (fun A S=>TG A t b ((Ys E.P r (eK ops g b)).f E A S k))=tV E ops l A S fun A S=>TG A t b (MJ E r (eK ops g b) A S k);rw [Sx]
  congr 1
  funext A S
  rw [ih]
def aCu (P:Program) (ops:Array Oper) (draw:Bool):Dr:=
 match draw with
 | true=>match TB P ops with
  | some l=>match GZ l with
   | []=>TL P ops l
   | ls=>⟨fun E A S k=>MA ops ls A fun A=>(TL P ops l).f E A S k⟩
  | none=>match DR ops with
   | true=>match TF P (ops.size+1) ops ⟨List.replicate ops.size false⟩ []with
    | some p=>⟨fun E A S k=>MA ops (Mo p) A fun A=>(Ys P p ops).f E A S k⟩
    | none=>⟨fun _ _ _ _=>false⟩
   | false=>⟨fun _ _ _ _=>false⟩
 | false=>aJ6 P ops ops.toList
theorem aBj (E:Env) (ops:Array Oper) (draw:Bool) (A:aM) (S:St) (k:KS):(aCu E.P ops draw).f E A S k=dF draw (drG E ops A S k) (OL E ops ops.toList A S k):=by
 cases draw with
 | true=>
  unfold aCu drG dF;simp only;cases TB E.P ops with
  | none=>
   simp only;cases DR ops with
   | false=>rfl
   | true=>
    simp only;cases TF E.P (ops.size+1) ops ⟨List.replicate ops.size false⟩ []with
    | none=>rfl
    | some p=>simp only [aCt]
  | some l=>
   simp only;cases h:GZ l with
   | nil=>exact QW E ops l A S k
   | cons d ls=>simp only [QW]
 | false=>exact aHl E ops _ A S k
structure oN where
 loop:Nat->List Nat×List Nat×List Nat
 join:Nat->Option (List Nat)
def pE:Code->Option Nat
 | .region i _ _=>some i
 | .seq a b=>match pE a with | some i=>some i | none=>pE b
 | .cond _ a b=>match pE a with | some i=>some i | none=>pE b
 | .block _ a=>pE a
 | .loop a=>pE a
 | .scope a=>pE a
 | .rangeFunc _ _ a b=>match pE a with | some i=>some i | none=>pE b
 | _=>none
def sC (tb:oN) (a:Code):List Nat:=match pE a with | some i=>(tb.loop i).1 | none=>[]
def TN (tb:oN) (a:Code) (e:uB):List Nat:=match pE a with
 | some i=>match e with | .ret=>(tb.loop i).2.2 | _=>(tb.loop i).2.1
 | none=>[]
def mQ (tb:oN) (b:Code):Option (List Nat):=match pE b with | some i=>tb.join i | none=>none
def xE (l:List Nat) (A:aM) (k:List Value->Bool):Bool:=
 fE (β:=(List Value->Bool)->Bool) (fun k=>k []) (fun i _ ih k=>NO A.tmps i fun v=>ih fun vs=>k (v::vs)) l k
def DZ (l:List Nat) (vs:List Value) (nt g:Nat) (marks:List Nat) (k:aM->Bool):Bool:=
 fE (β:=List Value->Tm->Bool) (fun _ T=>k ⟨T,marks,g⟩) (fun i _ ih vs T=>match vs with | v::vs=>qW v T i fun T=>ih vs T | []=>false) l vs ⟨.leaf,nt⟩
abbrev LpT:=Env->Option Nat->List Value->Nat->List Nat->St->(uB->List Value->Nat->List Nat->St->Bool)->Bool
section
variable (P:Program) (tb:oN)
def Nb (a:Code) (ih:List Value->Nat->List Nat->St->Bool) (K:uB->List Value->Nat->List Nat->St->Bool):QK:=fun e A S=>match e with
 | .normal=>xE (sC tb a) A fun vs=>ih vs A.tmps.n A.marks S
 | e=>xE (TN tb a e) A fun vs=>K e vs A.tmps.n A.marks S
def TO (a:Code) (body:CdW) (E:Env) (r:Option Nat) (K:uB->List Value->Nat->List Nat->St->Bool):Nat->List Value->Nat->List Nat->St->Bool:=
 IK (β:=List Value->Nat->List Nat->St->Bool) (fun _ _ _ _=>false) (fun _ ih vs n marks S=>DZ (sC tb a) vs n P.globals.size marks fun A=>body.f E r A S (Nb tb a ih K))
def aHp (a:Code) (body:CdW):LpT:=fun E r vs n marks S K=>TO P tb a body E r K E.most vs n marks S
def aKa (a:Code) (K:QK):uB->List Value->Nat->List Nat->St->Bool:=fun e vs n marks S=>DZ (TN tb a e) vs n P.globals.size marks fun A=>K e A S
def aMH (a:Code) (lp:LpT):CdW:=⟨fun E r A S K=>xE (sC tb a) A fun vs=>lp E r vs A.tmps.n A.marks S (aKa P tb a K)⟩
def aBk (l:List Nat) (b:CdW) (E:Env) (r:Option Nat) (K:QK) (vs:List Value) (n:Nat) (marks:List Nat) (S:St):Bool:=nU E.most false fun _=>DZ l vs n P.globals.size marks fun A=>b.f E r A S K
def Ta (j:Option (List Nat)) (b:CdW) (E:Env) (r:Option Nat) (K:QK):QK:=fun e A S=>match e with
 | .normal=>match j with
  | none=>b.f E r A S K
  | some l=>xE l A fun vs=>aBk P l b E r K vs A.tmps.n A.marks S
 | e=>K e A S
def Yv (id:Nat) (K:QK):QK:=fun e A S=>match e with
 | .exit i=>match Nat.beq i id with | true=>K .normal A S | false=>K (.exit i) A S
 | e=>K e A S
def nY (lp:Code->LpT):Code->CdW
 | .skip=>⟨fun _ _ A S K=>K .normal A S⟩
 | .region _ ops draw=>⟨fun E _ A S K=>(aCu P ops draw).f E A S fun A S=>K .normal A S⟩
 | .seq a b=>⟨fun E r A S K=>(nY lp a).f E r A S (Ta P (mQ tb b) (nY lp b) E r K)⟩
 | .cond c a b=>⟨fun E r A S K=>(vC c).f A fun v=>match v with | .bool v=>dF v ((nY lp a).f E r A S K) ((nY lp b).f E r A S K) | _=>false⟩
 | .block id a=>⟨fun E r A S K=>(nY lp a).f E r A S (Yv id K)⟩
 | .loop a=>aMH P tb a (lp a)
 | .scope a=>nY lp a
 | .rangeFunc f ps as bo=>⟨fun E r A S K=>QL E r f ps as bo A S K⟩
 | .exit id=>⟨fun _ _ A S K=>K (.exit id) A S⟩
 | .label _=>⟨fun _ _ A S K=>K .normal A S⟩
 | .ret=>⟨fun _ _ A S K=>K .ret A S⟩
 | _=>⟨fun _ _ _ _ _=>false⟩
def lpX:Nat->Code->LpT
 | 0=>fun _ _ _ _ _ _ _ _=>false
 | n+1=>fun a=>aHp P tb a (nY P tb (lpX n) a)
end
end Go.Am
namespace Go.Am
open Go.RowKit Go.MapKept
section
variable{P:Program}{w0:World}{U:Rn}{S:St}{w:World}
theorem Yw{A:aM}:∀{l:List Nat} {k:List Value->Bool},xE l A k=true->∃vs,k vs=true/\vs.length=l.length/\∀(j i:Nat) (v:Value),l[j]? =some i->vs[j]? =some v->A.tmps.t.get i=some v:=by
 intro l;induction l with
 | nil=>intro k hk;exact⟨[],hk,rfl,fun j i v h=>by simp at h⟩
 | cons x l ih=>
  intro k hk;obtain⟨v,hv,hk⟩:=AD (show NO A.tmps x (fun v=>xE l A fun vs=>k (v::vs))=true from hk);obtain⟨vs,h1,h2,h3⟩:=ih hk;refine⟨v::vs,h1,by simp [h2],fun j i u hi hu=>?_⟩;cases j with
  | zero=>simp at hi hu;subst hi hu;exact hv
  | succ j=>simp at hi hu;exact h3 j i u hi hu
def aBl (U:Rn) (l:List Nat) (vs:List Value) (a:Act):Prop:=vs.length=l.length/\∀(j i:Nat) (v:Value),l[j]? =some i->vs[j]? =some v->∃v',a.tmps.toList[i]? =some v'/\VR U v v'
theorem Tc{A:aM}{a:Act} (hA:vN P U A a){l:List Nat}{k:List Value->Bool} (hk:xE l A k=true):∃vs,k vs=true/\aBl U l vs a:=by
 obtain⟨vs,h1,h2,h3⟩:=Yw hk;exact⟨vs,h1,h2,fun j i v hi hv=>hA.tmps.get (h3 j i v hi hv)⟩
theorem Nc{a:Act}{marks:List Nat}{k:aM->Bool}{nt:Nat}:∀{l:List Nat} {vs:List Value} {T:Tm},
 (fE (β:=List Value->Tm->Bool) (fun _ T=>k ⟨T,marks,P.globals.size⟩) (fun i _ ih vs T=>match vs with | v::vs=>qW v T i fun T=>ih vs T | []=>false) l vs T)=true->
 aBl U l vs a->T.n=nt->(∀i v,T.t.get i=some v->∃v',a.tmps.toList[i]? =some v'/\VR U v v')->∃T',k ⟨T',marks,P.globals.size⟩=true/\T'.n=nt/\∀i v,T'.t.get i=some v->∃v',a.tmps.toList[i]? =some v'/\VR U v v':=by
 intro l;induction l with
 | nil=>intro vs T hk _ hn hT;exact⟨T,hk,hn,hT⟩
 | cons x l ih=>
  intro vs T hk hv hn hT;rw [aO]at hk;cases vs with
  | nil=>have:=hv.1;simp at this
  | cons v vs=>
   obtain⟨hx,hk⟩:=yR hk;refine ih hk ⟨by have:=hv.1;simpa using this,fun j i u hi hu=>hv.2 (j+1) i u (by simpa using hi) (by simpa using hu)⟩ hn fun i u hu=>?_;have hu:(T.t.put x v).get i=some u:=hu;rw [vB]at hu;split at hu
   ·rename_i e
    injection hu with hu;subst hu e;exact hv.2 0 i v rfl rfl
   ·exact hT i u hu
theorem Td{a:Act}{marks:List Nat}{k:aM->Bool}{nt:Nat}{l:List Nat}{vs:List Value} (hk:DZ l vs nt P.globals.size marks k=true) (hv:aBl U l vs a) (hn:nt=a.tmps.size) (hm:Lt U marks a.defers) (hr:Rel P w0 U S w):
 ∃A,k A=true/\SR P w0 U A a S w/\A.marks=marks:=by
 obtain⟨T',h1,h2,h3⟩:=Nc hk hv rfl (fun i v h=>by cases h);exact⟨_,h1,⟨⟨⟨by rw [h2,hn];simp,h3⟩,rfl⟩,hr,hm⟩,rfl⟩
end
end Go.Am
namespace Go.Am
open Go.RowKit Go.MapKept
section
variable{E:Env}{w0:World}
structure AtX (P:Program) (w0:World) (U:Rn) (l:List Nat) (vs:List Value) (n:Nat) (marks:List Nat) (a:Act) (S:St) (w:World):Prop where
 aOo:aBl U l vs a
 size:n=a.tmps.size
 marks:Lt U marks a.defers
 rel:Rel P w0 U S w
def aOp (P:Program) (w0:World) (tb:oN) (b:Code) (U:Rn) (w:World) (K:uB->List Value->Nat->List Nat->St->Bool) (e:Exit) (a':Act) (w':World):Prop:=
 ∃U' ae vs n marks S',e=exR ae/\K ae vs n marks S'=true/\AtX P w0 U' (TN tb b ae) vs n marks a' S' w'/\sQ U w U' w'
def aMI (E:Env) (w0:World) (tb:oN) (lp:Code->LpT):Prop:=∀(b:Code) {U:Rn} {vs:List Value} {n:Nat} {marks:List Nat} {a:Act} {S:St} {w:World} {K:uB->List Value->Nat->List Nat->St->Bool} {r ro:Option Nat} {Q:Exit->Act->World->Prop},
 lp b E r vs n marks S K=true->AtX E.P w0 U (sC tb b) vs n marks a S w->RoR U r ro->(∀e a' w',aOp E.P w0 tb b U w K e a' w'->Q e a' w')->(Code.loop b).wpIn (JW ro) 0 E.P Q a w
theorem AtX.canon{P:Program}{U:Rn}{l:List Nat}{vs:List Value}{n:Nat}{marks:List Nat}{a:Act}{S:St}{w:World}{k:aM->Bool} (h:AtX P w0 U l vs n marks a S w) (hk:DZ l vs n P.globals.size marks k=true):∃A,k A=true/\SR P w0 U A a S w:=by
 obtain⟨A,h1,h2,_⟩:=Td hk h.aOo h.size h.marks h.rel;exact⟨A,h1,h2⟩
theorem SR.at{P:Program}{U:Rn}{A:aM}{a:Act}{S:St}{w:World}{l:List Nat}{k:List Value->Bool} (h:SR P w0 U A a S w) (hk:xE l A k=true):∃vs,k vs=true/\AtX P w0 U l vs A.tmps.n A.marks a S w:=by
 obtain⟨vs,h1,h2⟩:=Tc h.act hk;exact⟨vs,h1,h2,by rw [h.act.tmps.1];simp,h.marks,h.rel⟩
theorem TP (hc:jA E.P w0 E.call) (hr:mJ E.P w0 E.round) (hm:E.P.follows .mixedOrders=true){tb:oN}{lp:Code->LpT} (hlp:aMI E w0 tb lp):∀(c:Code) {U:Rn} {A:aM} {a:Act} {S:St} {w:World} {K:QK} {r ro:Option Nat} {Q:Exit->Act->World->Prop},
 (nY E.P tb lp c).f E r A S K=true->SR E.P w0 U A a S w->RoR U r ro->(∀e a' w',Arr E.P w0 U w K e a' w'->Q e a' w')->c.wpIn (JW ro) 0 E.P Q a w:=by
 intro c;induction c with
 | skip=>intro U A a S w K r ro Q hk hs pK hQ;exact wpIn_skip (hQ _ _ _ ⟨U,.normal,A,S,rfl,hk,hs,.refl U w⟩)
 | label l=>intro U A a S w K r ro Q hk hs pK hQ;exact wpIn_label (hQ _ _ _ ⟨U,.normal,A,S,rfl,hk,hs,.refl U w⟩)
 | ret=>intro U A a S w K r ro Q hk hs pK hQ;exact wpIn_ret (hQ _ _ _ ⟨U,.ret,A,S,rfl,hk,hs,.refl U w⟩)
 | exit id=>intro U A a S w K r ro Q hk hs pK hQ;exact wpIn_exit (hQ _ _ _ ⟨U,.exit id,A,S,rfl,hk,hs,.refl U w⟩)
 | goto l=>intro U A a S w K r ro Q hk hs pK hQ;cases hk
 | refuse l=>intro U A a S w K r ro Q hk hs pK hQ;cases hk
 | region id ops draw=>
  intro U A a S w K r ro Q hk hs pK hQ;have hk:(aCu E.P ops draw).f E A S (fun A S=>K .normal A S)=true:=hk;rw [aBj]at hk;exact SO hc hr (aJ3 hc hr hm) (.region id ops draw) hk hs pK hQ
 | seq x y ihx ihy=>
  intro U A a S w K r ro Q hk hs pK hQ;have hk:(nY E.P tb lp x).f E r A S (Ta E.P (mQ tb y) (nY E.P tb lp y) E r K)=true:=hk;refine wpIn_seq (ihx hk hs pK ?_)
  rintro e a' w' ⟨U',ae,A',S',rfl,h1,h2,h3⟩
  cases ae with
  | normal=>
   unfold Ta at h1;cases hj:mQ tb y with
   | none=>
    rw [hj]at h1;exact ihy h1 h2 (pK.mono h3.ext) fun e a w h=>hQ e a w (h.trans h3)
   | some l=>
    rw [hj]at h1;have h1:xE l A' (fun vs=>aBk E.P l (nY E.P tb lp y) E r K vs A'.tmps.n A'.marks S')=true:=h1;obtain⟨vs,g1,g2⟩:=h2.at h1
    have g1:DZ l vs A'.tmps.n E.P.globals.size A'.marks (fun A=>(nY E.P tb lp y).f E r A S' K)=true:=by
     unfold aBk at g1;cases hm:E.most with
     | zero=>rw [hm]at g1;cases g1
     | succ m=>rw [hm]at g1;exact g1
    obtain⟨A2,g3,g4⟩:=g2.canon g1;exact ihy g3 g4 (pK.mono h3.ext) fun e a w h=>hQ e a w (h.trans h3)
  | exit id=>exact hQ _ _ _ ⟨U',.exit id,A',S',rfl,h1,h2,h3⟩
  | ret=>exact hQ _ _ _ ⟨U',.ret,A',S',rfl,h1,h2,h3⟩
 | cond c x y ihx ihy=>
  intro U A a S w K r ro Q hk hs pK hQ;have hk:(vC c).f A (fun v=>match v with | .bool b=>dF b ((nY E.P tb lp x).f E r A S K) ((nY E.P tb lp y).f E r A S K) | _=>false)=true:=hk;rw [kB]at hk;obtain⟨v,hk,hv⟩:=aK hs.rel hs.act hk;split at hk
  ·rename_i b
   have e:=hv.of_flat rfl;cases b with
   | true=>exact wpIn_cond_true e (ihx hk hs pK hQ)
   | false=>exact wpIn_cond_false e (ihy hk hs pK hQ)
  ·cases hk
 | block id x ih=>
  intro U A a S w K r ro Q hk hs pK hQ;have hk:(nY E.P tb lp x).f E r A S (Yv id K)=true:=hk;refine wpIn_block (ih hk hs pK ?_)
  rintro e a' w' ⟨U',ae,A',S',rfl,h1,h2,h3⟩
  cases ae with
  | normal=>exact hQ _ _ _ ⟨U',.normal,A',S',rfl,h1,h2,h3⟩
  | ret=>exact hQ _ _ _ ⟨U',.ret,A',S',rfl,h1,h2,h3⟩
  | exit i=>
   unfold Yv at h1;simp only at h1;show Exit.inBlock id Q (.exit i) a' w';split at h1
   ·rename_i hi
    have hi:=cV hi;subst hi;simp only [Exit.inBlock,if_true];exact hQ _ _ _ ⟨U',.normal,A',S',rfl,h1,h2,h3⟩
   ·rename_i hi
    have hi:=KT hi;simp only [Exit.inBlock,hi,if_false];exact hQ _ _ _ ⟨U',.exit i,A',S',rfl,h1,h2,h3⟩
 | scope x ih=>
  intro U A a S w K r ro Q hk hs pK hQ;refine Dm (ih (show(nY E.P tb lp x).f E r A S K=true from hk) hs pK ?_)
  rintro e a' w' ⟨U',ae,A',S',rfl,h1,h2,h3⟩
  cases ae with
  | normal=>exact hQ _ _ _ ⟨U',.normal,A',S',rfl,h1,h2,h3⟩
  | exit id=>exact hQ _ _ _ ⟨U',.exit id,A',S',rfl,h1,h2,h3⟩
  | ret=>exact hQ _ _ _ ⟨U',.ret,A',S',rfl,h1,h2,h3⟩
 | rangeFunc f ps as bo _ _=>
  intro U A a S w K r ro Q hk hs pK hQ;exact Iw hc hk hs pK hQ
 | loop x ih=>
  intro U A a S w K r ro Q hk hs pK hQ;have hk:xE (sC tb x) A (fun vs=>lp x E r vs A.tmps.n A.marks S (aKa E.P tb x K))=true:=hk;obtain⟨vs,hk,DV⟩:=hs.at hk;refine hlp x hk DV pK ?_
  rintro e a' w' ⟨U',ae,vs',n',aOq,S',rfl,h1,h2,h3⟩
  obtain⟨A',h1,h4⟩:=h2.canon h1;exact hQ _ _ _ ⟨U',ae,A',S',rfl,h1,h4,h3⟩
theorem Yx (hc:jA E.P w0 E.call) (hr:mJ E.P w0 E.round) (hm:E.P.follows .mixedOrders=true) (tb:oN):∀m,aMI E w0 tb (lpX E.P tb m):=by
 intro m;induction m with
 | zero=>intro b U vs n marks a S w K r ro Q hk;cases hk
 | succ m ih=>
  intro b U vs n marks a S w K r ro Q hk DV pK hQ
  let F:Nat->List Value->Nat->List Nat->St->Bool:=TO E.P tb b (nY E.P tb (lpX E.P tb m) b) E r K
  have hk:F E.most vs n marks S=true:=hk
  let I:Nat->Act->World->Prop:=fun j a' w'=>∃U' vs n marks S',F j vs n marks S'=true/\AtX E.P w0 U' (sC tb b) vs n marks a' S' w'/\sQ U w U' w'
  refine wpIn_loop (I:=fun a w=>∃j,I j a w) (μ:=fun a w=>least fun j=>I j a w) ⟨E.most,U,vs,n,marks,S,hk,DV,.refl U w⟩ ?_
  rintro a1 w1 ⟨j0,hj0⟩
  obtain⟨hj,_⟩:=IT (p:=fun j=>I j a1 w1) hj0;generalize aNV:least (fun j=>I j a1 w1)=j at hj;obtain⟨U1,vs1,n1,aKb,S1,h1,h2,h3⟩:=hj;cases j with
  | zero=>cases h1
  | succ j=>
   have h1:DZ (sC tb b) vs1 n1 E.P.globals.size aKb (fun A=>(nY E.P tb (lpX E.P tb m) b).f E r A S1 (Nb tb b (F j) K))=true:=h1;obtain⟨A1,h1,De⟩:=h2.canon h1;refine TP hc hr hm ih b h1 De (pK.mono h3.ext) ?_
   rintro e a' w' ⟨U',ae,A',S',rfl,g1,g2,g3⟩
   cases ae with
   | normal=>
    obtain⟨vs',g1,aEG⟩:=g2.at g1;have hI:I j a' w':=⟨U',vs',_,_,S',g1,aEG,h3.trans g3⟩;refine⟨⟨j,hI⟩,?_⟩;have:=(IT (p:=fun j=>I j a' w') hI).2;exact Nat.lt_succ_of_le this
   | exit id=>
    obtain⟨vs',g1,aEG⟩:=g2.at g1;exact hQ _ _ _ ⟨U',.exit id,vs',_,_,S',rfl,g1,aEG,h3.trans g3⟩
   | ret=>
    obtain⟨vs',g1,aEG⟩:=g2.at g1;exact hQ _ _ _ ⟨U',.ret,vs',_,_,S',rfl,g1,aEG,h3.trans g3⟩
end
section
variable (P:Program) (tb:FuncId->oN)
def aOr (fn:Func) (K:VK):QK:=fun e A S=>match e with
 | .exit _=>false
 | _=>GI A.marks S fun S=>qC P fn.results.toList A S fun vs=>match vs with | [v]=>K v S | vs=>K (.tuple ⟨vs⟩) S
def rS:Nat:=5
def fnX (f:FuncId) (E:Env) (args:List Value) (S:St) (K:VK):Bool:=
 match P.funcs[f]? with
 | some fn=>match fn.body with
  | some c=>cG fn.ntmps fun n=>aAR n args fun ts=>(nY P (tb f) (lpX P (tb f) rS) c).f E none ⟨ts,[],P.globals.size⟩ S (aOr P fn K)
  | none=>false
 | none=>false
def WW (n:Nat) (bo:Code):Nat:=match pE bo with | some i=>1000000+n*10000+i | none=>1000000
def Jj (n:Nat) (bo:Code):List Nat:=((tb (WW n bo)).loop 1000000).1
def aHq (l:Nat) (K:VK):QK:=fun e _ S=>nV S.h l fun o=>match o with
 | .loop tm ps as bo _ _=>match e with
  | .normal=>pX S l (.loop tm ps as bo .ready none) fun S=>K (.bool true) S
  | .ret=>pX S l (.loop tm ps as bo .done (some .ret)) fun S=>K (.bool false) S
  | .exit id=>pX S l (.loop tm ps as bo .done (some (.exit id))) fun S=>K (.bool false) S
 | _=>false
def aEH (n l:Nat) (bo:Code) (E:Env) (K:VK):QK:=fun e A S=>match e with
 | .normal=>nV S.h l fun o=>match o with
  | .loop tm ps as bo' .ready pe=>pX S l (.loop tm ps as bo' .busy pe) fun S=>(nY P (tb (WW n bo)) (lpX P (tb (WW n bo)) rS) bo).f E (some l) A S (aHq l K)
  | _=>false
 | _=>false
def Er (E:Env) (l:Nat) (args:List Value) (S:St) (K:VK):Bool:=
 nV S.h l fun o=>match o with
  | .loop tmps ps as bo _ _=>xE (Jj tb tmps.n bo) ⟨tmps,[],P.globals.size⟩ fun vs=>DZ (Jj tb tmps.n bo) vs tmps.n P.globals.size [] fun A=>Rc ps args A.tmps fun ts=>
   (nY P (tb (WW tmps.n bo)) (lpX P (tb (WW tmps.n bo)) rS) as).f E (some l) ⟨ts,[],P.globals.size⟩ S (aEH P tb tmps.n l bo E K)
  | _=>false
def aCx (ov:FuncId->Option (List Value->St->VK->Bool)) (most:Nat) (n:Nat):Env:=
 IK (β:=Env) {P,ov,call:=fun _ _ _ _=>false,round:=fun _ _ _ _=>false,most}
  (fun _ E=>{P,ov,call:=fun f args S K=>match ov f with | some g=>g args S K | none=>fnX P tb f E args S K,round:=fun l args S K=>Er P tb E l args S K,most}) n
inductive Dir where
 | l
 | r
 | d
variable (T:oN) (E:Env)
end
section
variable{P:Program}{tb:FuncId->oN}{w0:World}
theorem aCy{E:Env} (hP:E.P=P) (hc:jA P w0 E.call) (hr:mJ P w0 E.round) (hm:P.follows .mixedOrders=true) (DP:∀(f:FuncId) (fn:Func),P.funcs[f]? =some fn->fn.name≠ "runtime.NumGoroutine"):jA P w0 (fun f args S K=>fnX P tb f E args S K):=by
 subst hP;intro f args S K U w dI hk h ha;dsimp only at hk;unfold fnX at hk;split at hk
 ·rename_i fn hf
  split at hk
  ·rename_i c hb
   refine⟨fun w=>?_,?_⟩
   ·have hn:=DP f fn hf
    have hp:(program).run E.P w= .ok E.P w:=rfl;simp [callFunc,hp,hf,hn,hb]
   ·rw [aY]at hk
    obtain⟨ts,hk,Dc⟩:=YJ hk ha;refine callsIn_of_wp_marks hf hb trivial (TP hc hr hm (Yx hc hr hm (tb f) rS) c (ro:=none) (r:=none) hk ⟨⟨Dc,rfl⟩,h,⟨rfl,by simp⟩⟩ (.inl ⟨rfl,rfl⟩) ?_)
    ·rintro e a' w' ⟨U',ae,A',S',rfl,g1,g2,g3⟩
     have fin:GI A'.marks S' (fun S=>qC E.P fn.results.toList A' S fun vs=>match vs with | [v]=>K v S | vs=>K (.tuple ⟨vs⟩) S)=true->LeavesInM (JW none) 0 E.P fn a'.tmps (Xp E.P w0 U w K) a'.defers .returning w':=by
      intro hk;refine SP hk g2.rel g2.marks fun S2 w2 hk hrel LT=>?_;obtain⟨vs,vs',hk,DQ,dD⟩:=LW hrel g2.act hk
      have aJG:(fn.results.mapM (fun | .tmp t=>pure (a'.tmps.getD t undef) | .cell x t=>do loadVar t (<-asAddr (a'.tmps.getD x undef)):ResultVar->Sem Value)).run E.P w2= .ok ⟨vs'⟩ w2:=by
       rw [<-Xd (xs:=fn.results),List.mapM_toArray];rw [Sem.run_map];exact(kA (fun r=>Result.andThen r _) dD).trans rfl
      refine⟨(if h:(⟨vs'⟩:Array Value).size=1 then(⟨vs'⟩:Array Value)[0]else .tuple ⟨vs'⟩),?_,?_⟩
      ·unfold results
       rw [bY];exact(kA (fun r=>Result.andThen r _) aJG).trans rfl
      ·refine⟨_,rfl,?_⟩
       match vs,vs',hk,DQ with
       | [v],[v'],hk,DQ=>exact⟨U',v,S2,hk,DQ.head,hrel,g3.trans LT⟩
       | [],[],hk,DQ=>exact⟨U',_,S2,hk,.qD (.nil _),hrel,g3.trans LT⟩
       | a::b::l,a2::b2::l2,hk,DQ=>
        have:¬(⟨a2::b2::l2⟩:Array Value).size=1:=by simp
        rw [dif_neg this];exact⟨U',_,S2,hk,.qD DQ,hrel,g3.trans LT⟩
       | [],_::_,_,DQ=>have:=DQ.1;simp at this
       | _::_,[],_,DQ=>have:=DQ.1;simp at this
       | [_],_::_::_,_,DQ=>have:=DQ.1;simp at this
       | _::_::_,[_],_,DQ=>have:=DQ.1;simp at this
     cases ae with
     | normal=>exact fin g1
     | ret=>exact fin g1
     | exit id=>cases g1
  ·cases hk
 ·cases hk
theorem Nd{E:Env} (hP:E.P=P) (hc:jA P w0 E.call) (hr:mJ P w0 E.round) (hm:P.follows .mixedOrders=true):mJ P w0 (Er P tb E):=by
 subst hP;intro l args S K U w dI L hk h ha hL;unfold Er at hk;obtain⟨o,ho,hk⟩:=nE hk;split at hk
 ·rename_i tmps params assign body st pe
  obtain⟨r,hb,hrr,Wj,hpe,YA,has,hbo,htm⟩:=tJ h ho hL;have aOs:SR E.P w0 U ⟨tmps,[],E.P.globals.size⟩ {tmps:=r.tmps,defers:=[]} S w:=⟨⟨htm,rfl⟩,h,⟨rfl,by simp⟩⟩;obtain⟨vs,hk,DV⟩:=aOs.at hk;obtain⟨A0,hk,hA0⟩:=DV.canon hk;obtain⟨ts,hk,hlen,Dc⟩:=Do hk ha hA0.act.tmps
  have Xt:(Instr.yield L.b ⟨dI⟩).run E.P w= .ok (.round L.b r.fn ((r.params.zip ⟨dI⟩).foldl (fun tmps (x:Tmp×Value)=>tmps.setIfInBounds x.1 x.2) r.tmps) r.assign r.body) w:=by
   have hsz:(⟨dI⟩:Array Value).size=r.params.size:=by
    show dI.length=_;rw [hlen,<-YA];rfl
   have uR:¬(⟨dI⟩:Array Value).size≠r.params.size:=fun hh=>hh hsz;simp only [Instr.yield,bY,run_getLoop hrr,dK,if_neg uR,iY]
  refine⟨_,_,_,_,Xt,?_⟩;refine roundIn_of_wpIn trivial ?_;rw [has]
  have aJH:((r.params.zip ⟨dI⟩).foldl (fun tmps (x:Tmp×Value)=>tmps.setIfInBounds x.1 x.2) r.tmps)=(params.zip dI).foldl (fun tmps (x:Tmp×Value)=>tmps.setIfInBounds x.1 x.2) r.tmps:=by
   rw [<-Xg]
   congr 1
   rw [Array.toList_zip,YA]
  rw [aJH];refine TP hc hr hm (Yx hc hr hm _ rS) assign (ro:=some L.b) hk ⟨⟨Dc,rfl⟩,h,⟨rfl,by simp⟩⟩ (.inr ⟨l,L,rfl,hL,rfl⟩) ?_
  rintro e a' w' ⟨U1,ae,A1,S1,rfl,g1,g2,g3⟩
  unfold aEH at g1;cases ae with
  | exit id=>cases g1
  | ret=>cases g1
  | normal=>
   simp only at g1;obtain⟨o1,ho1,g1⟩:=nE g1;have Hb:=g3.ext _ _ hL;split at g1
   ·rename_i tm ps as bo pe1
    obtain⟨r1,Dp,aD0,Re,aJI,aJJ,aJK,aJL,aJM⟩:=tJ g2.rel ho1 Hb;obtain⟨q1,q2,q3⟩:=LV g2.rel ho1 Hb Dp aD0 aJJ aJK aJL aJM .busy pe1;rw [fZ]at g1;refine⟨w'.putObj L.b (.loop {r1 with state:= .busy,pending:=pe1}),?_,?_⟩
    ·have q3':(setObj L.b (.loop {r1 with state:= .busy})).run E.P w'= .ok () (w'.putObj L.b (.loop {r1 with state:= .busy,pending:=pe1})):=by
      rw [<-aJI]at q3 ⊢;exact q3
     simp only [Instr.beginRound,bY,run_getLoop aD0,dK,q3',Re,iY]
    ·rw [hbo]
     refine TP hc hr hm (Yx hc hr hm _ rS) body (ro:=some L.b) g1 ⟨g2.act,q1,g2.marks⟩ (.inr ⟨l,L,rfl,Hb,rfl⟩) ?_
     rintro e2 a2 w2 ⟨U2,ae2,A2,S2,rfl,k1,k2,k3⟩
     unfold aHq at k1;obtain⟨o2,uK,k1⟩:=nE k1;have Df:=k3.ext _ _ Hb;split at k1
     ·rename_i tm2 ps2 as2 bo2 st2 pe2
      obtain⟨r2,OO,aD1,aG0,aNW,aJN,aJO,aJP,aJQ⟩:=tJ k2.rel uK Df
      have fin:∀(Ax:LoopState) (jump:Option Code) (bv:Bool),K (.bool bv) (S2.set l (.loop tm2 ps2 as2 bo2 Ax jump))=true->bv=jump.isNone->Ax=(if jump.isNone then .ready else .done)->
       ∃v w',(Instr.endRound L.b jump).run E.P w2= .ok v w'/\Xp E.P w0 U w K (.returned v) w':=by
       intro Ax jump bv hK hbv aD2;obtain⟨z1,z2,z3⟩:=LV k2.rel uK Df OO aD1 aJN aJO aJP aJQ Ax jump;refine⟨.bool bv,_,?_,.bool bv,rfl,U2,.bool bv,_,hK,.flat rfl,z1,((g3.trans q2).trans k3).trans z2⟩;rw [aD2]at z3 ⊢;simp only [Instr.endRound,bY,run_getLoop aD1,dK,z3,iY,hbv]
      cases ae2 with
      | normal=>
       simp only [fZ]at k1;exact fin .ready none true k1 rfl rfl
      | ret=>
       simp only [fZ]at k1;exact fin .done (some .ret) false k1 rfl rfl
      | exit id=>
       simp only [fZ]at k1;exact fin .done (some (.exit id)) false k1 rfl rfl
     ·cases k1
   ·cases g1
 ·cases hk
theorem aKc (P:Program) (tb:FuncId->oN) (ov:FuncId->Option (List Value->St->VK->Bool)) (most n:Nat):(aCx P tb ov most n).P=P:=by cases n<;>rfl
theorem Yy{ov:FuncId->Option (List Value->St->VK->Bool)}{most:Nat} (hov:Dq P w0 ov) (DP:∀(f:FuncId) (fn:Func),P.funcs[f]? =some fn->fn.name≠ "runtime.NumGoroutine") (hm:P.follows .mixedOrders=true):∀n,jA P w0 (aCx P tb ov most n).call/\mJ P w0 (aCx P tb ov most n).round:=by
 intro n;induction n with
 | zero=>
  refine⟨?_,?_⟩
  ·intro f args S K U w dI hk;cases hk
  ·intro l args S K U w dI L hk;cases hk
 | succ n ih=>
  obtain⟨ih1,ih2⟩:=ih;have hP:=aKc P tb ov most n;refine⟨fun f args S K U w dI hk h ha=>?_,?_⟩
  ·have hk:(match(generalizing:=false) ov f with | some g=>g args S K | none=>fnX P tb f (aCx P tb ov most n) args S K)=true:=hk
   split at hk
   ·rename_i g hg
    exact hov f g hg f args S K U w dI (by simpa using hk) h ha
   ·exact aCy (tb:=tb) hP ih1 ih2 hm DP f args S K U w dI hk h ha
  ·exact Nd hP ih1 ih2 hm
end
end Go.Am
namespace Go.Am
def bI (l:List (Nat×List Nat×List Nat×List Nat)) (i:Nat):List Nat×List Nat×List Nat:=fE (β:=List Nat×List Nat×List Nat) ([],[],[]) (fun p _ ih=>dF (Nat.beq p.1 i) p.2 ih) l
def bJ (l:List (Nat×List Nat)) (i:Nat):Option (List Nat):=fE (β:=Option (List Nat)) none (fun p _ ih=>dF (Nat.beq p.1 i) (some p.2) ih) l
def aMJ (l:List (Nat×oN)) (f:FuncId):oN:=fE (β:=oN) ⟨fun _=>([],[],[]),fun _=>none⟩ (fun p _ ih=>dF (Nat.beq p.1 f) p.2 ih) l
section
variable{P:Program}
theorem Yt (off b o:Nat) (K:Value->Bool):aEp off (.pointer (some ⟨b,o,none⟩)) K=K (.pointer (some ⟨b,o+off,none⟩)):=by
 show cG (o+off) (fun o=>K (.pointer (some ⟨b,o,none⟩)))=_;rw [aY]
theorem aJ7 (i:Nat) (vs:List Value) (K:Value->Bool):aEw i (.tuple ⟨vs⟩) K=OK vs i fun v=>K v:=rfl
theorem My{α:Type}{l:List α}{i:Nat}{v:α} (h:l[i]? =some v) (k:α->Bool):OK l i k=k v:=by
 induction l generalizing i with
 | nil=>cases h
 | cons a l ih=>
  cases i with
  | zero=>simp at h;subst h;rfl
  | succ i=>exact ih (by simpa using h)
theorem aHn (l:List UInt8) (K:Value->Bool):Su (.string ⟨⟨l⟩⟩) K=K (.int .i64 (.ofNat l.length)):=jT _ _
theorem aJ8 (k j:IntKind) (n:Int) (K:Value->Bool):aEv k (.int j n) K=K (.int k (dW k n)):=by
 show wP (dW k n) (fun n=>K (.int k n))=_;rw [mI]
theorem xD{S:St}{i:Nat}{vs:List Value}{e:TypeId}{c:CK} (h:S.obj i=some (.cells vs e c)) (k:List Value->TypeId->CK->Bool):uJ S i k=k vs e c:=by
 unfold uJ;rw [lB];have h:S.h.get i=some (.cells vs e c):=h;rw [h]
theorem aEC{S:St}{i o:Nat}{vs:List Value}{e:TypeId}{c:CK}{v:Value} (h:S.obj i=some (.cells vs e c)) (hv:vs[o]? =some v) (K:VK):rLd (.pointer (some ⟨i,o,none⟩)) S K=K v S:=by
 show uJ S i (fun vs _ _=>OK vs o fun v=>K v S)=_;rw [xD h,My hv]
theorem CM{S:St}{i o n:Nat}{vs:List Value}{e:TypeId}{c:CK} (h:S.obj i=some (.cells vs e c)) (hn:o+n<=vs.length) (k:List Value->Bool):BS S i o n k=k ((vs.drop o).take n):=by
 show uJ S i (fun vs _ _=>FB o vs fun l=>LB n l k)=_;rw [xD h,wW,if_pos (by omega),AB,if_pos (by simp;omega)]
theorem Yu{S:St}{i o n:Nat}{vs:List Value}{e:TypeId}{c:CK} (h:S.obj i=some (.cells vs e c)) (hn:o+n<=vs.length) (K:VK):aEo n (.pointer (some ⟨i,o,none⟩)) S K=K (.agg ⟨(vs.drop o).take n⟩) S:=by
 show BS S i o n (fun l=>K (.agg ⟨l⟩) S)=_;rw [CM h hn]
theorem aED{cs:List Value}{off:Nat}{v:Value} (h:cs[off]? =some v) (K:Value->Bool):Em off (.agg ⟨cs⟩) K=K v:=by
 show OK cs off K=_;rw [My h]
theorem aCv{cs:List Value}{off n:Nat} (h:off+n<=cs.length) (K:Value->Bool):TI off n (.agg ⟨cs⟩) K=K (.agg ⟨(cs.drop off).take n⟩):=by
 show FB off cs (fun l=>LB n l fun l=>K (.agg ⟨l⟩))=_;rw [wW,if_pos (by omega),AB,if_pos (by simp;omega)]
theorem Sy{v:Value} (h:fR v=true) (k:List Value->Bool):nW v k=k [v]:=by cases v<;>first | rfl | cases h
theorem aEE (z:List Value) (t:TypeId) (S:St) (K:VK):WU z t S K=K (.pointer (some ⟨S.n,0,none⟩)) (S.new (.cells z t .exact)):=by
 unfold WU aGS
 have:∀(z:List Value) (k:List Value->Bool),fE (β:=(List Value->Bool)->Bool) (fun k=>k []) (fun a _ ih k=>ih fun t=>k (a::t)) z k=k z:=by
  intro z;induction z with
  | nil=>intro k;rfl
  | cons a z ih=>intro k;exact ih _
 rw [this,gG]
theorem aJ9 (op:BinOp) (t:TypeId) (k:IntKind) (a b:Int) (K:Value->Bool) (h1:op≠ .shl) (h2:op≠ .shr):aEu P op t (.int k a) (.int k b) K=IL op k a b K:=by
 rw [IY];have hk:yM k k=true:=by cases k<;>rfl
 cases op<;>first | exact absurd rfl h1 | exact absurd rfl h2 | (show(match yM k k with | true=>_ | false=>false)=_;rw [hk])
theorem aHo (b:Bool) (K:Value->Bool):unK .not (.bool b) K=K (.bool (!b)):=by
 show QE (!b) (fun b=>K (.bool b))=_;rw [nQ]
theorem gE{S:St}{o:gV}{i:Nat} (h:i≠S.n):(S.new o).obj i=S.obj i:=by rw [IQ,if_neg h]
theorem rJ{S:St}{o:gV}:(S.new o).obj S.n=some o:=by rw [IQ,if_pos rfl]
theorem Mz{S:St}{i:Nat}{o:gV}:(S.set i o).obj i=some o:=by rw [zQ,if_pos rfl]
theorem kH{S:St}{i j:Nat}{o:gV} (h:j≠i):(S.set i o).obj j=S.obj j:=by rw [zQ,if_neg h]
theorem aCw (j:IntKind) (z:Int):JY (.int j z) (.int j z)=true:=by
 have h1:yM j j=true:=by cases j<;>rfl
 show(yM j j&&Au z z)=true;rw [h1,tD];simp
def Na (l:List UInt8):List Value:=l.map fun b=> .int .u8 (.ofNat b.toNat)
structure Src (S:St) (size:Nat) (x:Value) (n:Nat) (new:List Value):Prop where
 len:∀k,GS x k=k n
 first:∀k,n≠0->DF S size n x k=k new
 one:∀v∈new,fR v=true
theorem Src.text (S:St) (l:List UInt8):Src S 1 (.string ⟨⟨l⟩⟩) l.length (Na l):=by
 refine⟨fun k=>jT _ _,fun k h=>?_,fun v hv=>?_⟩
 ·show LB l.length l (fun l=>aDK l k)=_
  rw [AB,if_pos (bN _),VQ,Ll];rfl
 ·obtain⟨b,_,rfl⟩:=mA.1 hv
  rfl
theorem Src.row{S:St}{i o n c size:Nat}{vs:List Value}{e:TypeId}{ck:CK} (h:S.obj i=some (.cells vs e ck)) (hn:o+n*size<=vs.length) (h1:∀v∈(vs.drop o).take (n*size),fR v=true):Src S size (.slice (some ⟨i,o,none⟩) n c) n ((vs.drop o).take (n*size)):=by
 refine⟨fun k=>rfl,fun k hz=>?_,h1⟩;obtain⟨m,rfl⟩:=eY hz;show BS S i o ((m+1)*size) k=_;rw [CM h hn]
theorem aEF{elem size bytes n:Nat}{S:St}{x:Value}{new:List Value} (hx:Src S size x n new) (hz:n≠0) (hb:(n*bytes<=140737488355328/\n<=140737488355328)) (K:VK):
 Sv P elem size bytes (.slice none 0 0) x S K=K (.slice (some ⟨S.n,0,some 0⟩) n n) (S.new (.cells new elem (.grown []))):=by
 obtain⟨m,rfl⟩:=eY hz;show GS x _=_;rw [hx.len];show DF S size (m+1) x _=_;rw [hx.first _ hz];simp only [aY,fK];rw [show BR (m+1) bytes=true from LC hb];have:Nat.ble (m+1) 0=false:=rfl;simp only [this];show JS elem [] new (m+1) none S K=_;unfold JS;rw [kL];simp only [QA,gG]
theorem Sz{elem size bytes n m j:Nat}{S:St}{x:Value}{new vs:List Value}{olds:List Nat} (hx:Src S size x n new) (hz:n≠0) (hb:((m+n)*bytes<=140737488355328/\(m+n)<=140737488355328))
 (hj:S.obj j=some (.cells vs elem (.grown olds))) (hv:vs.length=m*size) (hs:bP P elem=some size) (K:VK):
 Sv P elem size bytes (.slice (some ⟨j,0,some 0⟩) m m) x S K=K (.slice (some ⟨S.n,0,some 0⟩) (m+n) (m+n)) ((S.set j (.cells vs elem .qV)).new (.cells (vs++new) elem (.grown (j::olds)))):=by
 obtain⟨p,rfl⟩:=eY hz;show GS x _=_;rw [hx.len];show DF S size (p+1) x _=_;rw [hx.first _ hz];simp only [aY];rw [show BR (m+(p+1)) bytes=true from LC hb]
 have:Nat.ble (m+(p+1)) m=false:=by
  cases h:Nat.ble (m+(p+1)) m with
  | false=>rfl
  | true=>have:=bE h;omega
 simp only [this];show uJ S j _=_;rw [xD hj];simp only [jT,fK,hv,hs];have DI:pW fR new=true:=by rw [jJ];exact dL.2 hx.one
 simp only [show Nat.beq (m*size) (m*size)=true from IJ _,show Nat.beq size size=true from IJ _,show Nat.beq elem elem=true from IJ _,DI];rw [CM hj (by omega)];rw [DE,<-hv,VQ];show JS elem vs new (m+(p+1)) (some (j,vs,elem,olds)) S K=_;unfold JS;rw [kL];simp only [fZ,gG];rfl
end
inductive Tag where
 | root (n:Nat)
 | sub (t:Tag) (k:Nat)
 | cut (t:Tag) (o n c:Nat)
inductive Dt where
 | int (k:IntKind) (z:Int)
 | bool (b:Bool)
 | str (l:List UInt8)
 | list (cs:List Dt) (n:Nat)
inductive V where
 | int (k:IntKind) (z:Int)
 | bool (b:Bool)
 | str (l:List UInt8)
 | list (O:Tag) (cs:List Dt) (n:Nat)
 | sS (O:Tag) (cs:List Dt) (o:Nat)
 | nil
 | acc (i n:Nat)
 | nZ (i n o:Nat)
 | pO (i n o k c:Nat)
 | emp (i n:Nat)
 | own (i o n c:Nat)
 | ptr (i o:Nat)
 | sD
 | func (f:FuncId) (a c:List V)
 | yield (l:Nat)
 | DO (s:String) (v:V)
 | iface (t:TypeId) (v:V)
 | Hw
 | MP
 | tM (i:Nat)
 | Hx
 | agg (cs:List V)
 | tuple (cs:List V)
def T (O:Tag):Dt->V
 | .int k z=> .int k z
 | .bool b=> .bool b
 | .str l=> .str l
 | .list cs n=> .list O cs n
def Tl (O:Tag):Nat->List Dt->List V
 | _,[]=>[]
 | o,d::l=>T (.sub O o) d::Tl O (o+1) l
inductive Ob where
 | row (vs:List V) (t:TypeId)
 | jK (vs:List V) (t:TypeId) (n:Nat)
 | map (es:List (V×V))
 | TW (es:List (V×V)) (bs:List Nat) (ck:Nat)
 | iter (m since:Nat) (seen:List Nat) (last:Nat)
 | loop (ls:List Nat) (vs:List V) (n:Nat) (ps:List Tmp) (as bo:Code) (st:LoopState) (pe:Option Code)
def PM:Ob->Bool
 | .jK _ _ _=>true
 | _=>false
abbrev Hp:=Nat->Option Ob
def aR (S:Hp) (i:Nat) (o:Ob):Hp:=fun j=>if j=i then some o else S j
def gA (S' S:Hp):Prop:=∀i o,S' i=some o->S i=some o
abbrev KV:=V->Hp->Prop
def tO:V->Bool
 | .agg _=>false
 | .tuple _=>false
 | _=>true
def ofV:Value->Option V
 | .int k z=>some (.int k z)
 | .bool b=>some (.bool b)
 | .string ⟨⟨l⟩⟩=>some (.str l)
 | .pointer none=>some .sD
 | .slice none 0 0=>some .nil
 | .nilIface=>some .Hw
 | .nilFunc=>some .MP
 | .map none=>some .Hx
 | _=>none
def IZ:List Value->Option (List V)
 | []=>some []
 | v::l=>match ofV v with
  | some x=>match IZ l with | some xs=>some (x::xs) | none=>none
  | none=>none
def JA:V:= .tuple []
def TX{α:Type} (l:List α) (i:Nat) (k:α->Prop):Prop:=match l[i]? with | some a=>k a | none=>False
def MQ{α:Type} (l:List α) (o n:Nat) (k:List α->Prop):Prop:=o+n<=l.length/\k ((l.drop o).take n)
def pA (c:V) (a b:Prop):Prop:=match c with
 | .bool v=>match v with | true=>a | false=>b
 | _=>False
def cK (c a b:V) (K:V->Prop):Prop:=match c with
 | .bool v=>match v with | true=>K a | false=>K b
 | _=>False
def aH (a:V) (S:Hp) (K:KV):Prop:=match a with
 | .ptr i o=>match S i with
  | some (.row vs _)=>TX vs o fun v=>K v S
  | _=>False
 | .sS O cs o=>TX cs o fun d=>K (T (.sub O o) d) S
 | .nZ i n o=>match S i with
  | some (.jK vs _ m)=>m=n/\TX vs o fun v=>K v S
  | _=>False
 | _=>False
def iP (n:Nat) (a:V) (S:Hp) (K:KV):Prop:=match a with
 | .ptr i o=>match S i with
  | some (.row vs _)=>MQ vs o n fun l=>K (.agg l) S
  | _=>False
 | .sS O cs o=>MQ cs o n fun l=>K (.agg (Tl O o l)) S
 | .nZ i m o=>match S i with
  | some (.jK vs _ m')=>m'=m/\MQ vs o n fun l=>K (.agg l) S
  | _=>False
 | _=>False
def yW (v:V) (k:List V->Prop):Prop:=match v with
 | .agg cs=>cs.all tO=true/\k cs
 | .tuple _=>False
 | v=>k [v]
def sU (n:Nat) (a x:V) (S:Hp) (k:Hp->Prop):Prop:=match a with
 | .ptr i o=>match S i with
  | some (.row vs t)=>yW x fun cs=>cs.length=n/\o+n<=vs.length/\k (aR S i (.row (aG o cs vs) t))
  | _=>False
 | .nZ i q o=>match S i with
  | some (.jK vs t m)=>m=q/\yW x fun cs=>cs.length=n/\o+n<=vs.length/\k (aR S i (.jK (aG o cs vs) t m))
  | _=>False
 | _=>False
def aE6 (vs:List V) (t:TypeId) (S:Hp) (K:Nat->Hp->Prop):Prop:=∀i,S i=none->K i (aR S i (.row vs t))
def xF (z:List Value) (k:List V->Prop):Prop:=match IZ z with | some l=>k l | none=>False
def gZ (z:List Value) (t:TypeId) (S:Hp) (K:KV):Prop:=xF z fun l=>aE6 l t S fun i S=>K (.ptr i 0) S
def tW (t:TypeId) (v:V) (S:Hp) (K:KV):Prop:=yW v fun cs=>aE6 cs t S fun i S=>K (.ptr i 0) S
def uT:List (Nat×Nat×V)->List V->(List V->Prop)->Prop
 | [],cs,k=>k cs
 | (o,n,v)::ps,cs,k=>yW v fun new=>new.length=n/\o+n<=cs.length/\uT ps (aG o new cs) k
def iQ (zero:List Value) (ps:List (Nat×Nat×V)) (K:V->Prop):Prop:=xF zero fun z=>uT ps z fun cs=>K (.agg cs)
def cQ (el:TypeId) (n:Nat) (zero:List Value) (ps:List (Nat×Nat×V)) (S:Hp) (K:KV):Prop:=
 xF zero fun z=>uT ps (List.replicate n z).flatten fun cs=>aE6 cs el S fun i S=>K (.own i 0 n n) S
def aL (off:Nat) (x:V) (K:V->Prop):Prop:=match x with
 | .ptr i o=>K (.ptr i (o+off))
 | .sS O cs o=>K (.sS O cs (o+off))
 | .nZ i n o=>K (.nZ i n (o+off))
 | _=>False
def Zp (off:Nat) (x:V) (K:V->Prop):Prop:=match x with
 | .agg cs=>TX cs off K
 | _=>False
def Nl (off n:Nat) (x:V) (K:V->Prop):Prop:=match x with
 | .agg cs=>MQ cs off n fun l=>K (.agg l)
 | _=>False
def kX (size:Nat) (x ix:V) (K:V->Prop):Prop:=match ix with
 | .int _ (.ofNat i)=>match x with
  | .list O cs n=>i<n/\K (.sS O cs (i*size))
  | .own b o n _=>i<n/\K (.ptr b (o+i*size))
  | .acc b n=>i<n/\K (.nZ b n (i*size))
  | .pO b n o m _=>i<m/\K (.nZ b n (o+i*size))
  | _=>False
 | _=>False
def aHF (P:Program) (t:TypeId):Option (Nat×Nat):=match P.underlying t with
 | some (.array len e)=>match bP P e with
  | some n=>some (len,n)
  | none=>none
 | _=>none
def aBw (len size:Nat) (x ix:V) (K:V->Prop):Prop:=match ix with
 | .int _ (.ofNat i)=>match x with
  | .ptr b o=>i<len/\K (.ptr b (o+i*size))
  | _=>False
 | _=>False
def Zq (x ix:V) (K:V->Prop):Prop:=match ix with
 | .int _ (.ofNat i)=>match x with
  | .str l=>TX l i fun b=>K (.int .u8 (.ofNat b.toNat))
  | _=>False
 | _=>False
def pY (i:Nat) (x:V) (K:V->Prop):Prop:=match x with
 | .tuple vs=>TX vs i K
 | _=>False
def GK (k:IntKind) (x:V) (K:V->Prop):Prop:=match x with
 | .int _ n=>K (.int k (dW k n))
 | _=>False
def dJ (x:V) (K:V->Prop):Prop:=match x with
 | .list _ _ n=>K (.int .i64 (.ofNat n))
 | .nil=>K (.int .i64 (.ofNat 0))
 | .acc _ n=>K (.int .i64 (.ofNat n))
 | .own _ _ n _=>K (.int .i64 (.ofNat n))
 | .pO _ _ _ k _=>K (.int .i64 (.ofNat k))
 | .emp _ _=>K (.int .i64 (.ofNat 0))
 | _=>False
def uD (x:V) (K:V->Prop):Prop:=match x with
 | .str l=>K (.int .i64 (.ofNat l.length))
 | _=>False
def HJ (size:Nat) (x:V) (S:Hp) (k:Nat->List V->Prop):Prop:=match x with
 | .nil=>k 0 []
 | .list O cs n=>n*size<=cs.length/\k n (Tl O 0 (cs.take (n*size)))
 | .own i o n _=>match S i with
  | some (.row vs _)=>MQ vs o (n*size) fun l=>k n l
  | _=>False
 | .acc i n=>match S i with
  | some (.jK vs _ m)=>m=n/\vs.length=n*size/\k n vs
  | _=>False
 | .pO i n o q _=>match S i with
  | some (.jK vs _ m)=>m=n/\MQ vs o (q*size) fun l=>k q l
  | _=>False
 | .emp _ _=>k 0 []
 | .str l=>size=1/\k l.length (l.map fun b=> .int .u8 (.ofNat b.toNat))
 | _=>False
def aJd (el:TypeId) (vs:List V) (n:Nat) (S:Hp) (K:KV):Prop:=∀i,S i=none->K (.acc i n) (aR S i (.jK vs el n))
def sE (el:TypeId) (size bytes:Nat) (s x:V) (S:Hp) (K:KV):Prop:=HJ size x S fun m new=>match m with
 | 0=>(match s with | .nil=>K s S | .acc _ _=>K s S | .own _ _ n c=>n<=c/\K s S | .list _ _ _=>K s S | .pO _ _ _ n c=>n<=c/\K s S | _=>False)
 | m+1=>new.all tO=true/\match s with
  | .nil=>((m+1)*bytes<=140737488355328/\(m+1)<=140737488355328)/\aJd el new (m+1) S K
  | .acc i n=>match S i with
   | some (.jK vs t n')=>n'=n/\t=el/\vs.length=n*size/\((n+(m+1))*bytes<=140737488355328/\(n+(m+1))<=140737488355328)/\K (.acc i (n+(m+1))) (aR S i (.jK (vs++new) el (n+(m+1))))
   | _=>False
  | .own i o n c=>match S i with
   | some (.row vs t)=>((n+(m+1))*bytes<=140737488355328/\(n+(m+1))<=140737488355328)/\o+n*size<=vs.length/\
    (n+(m+1)<=c->o+n*size+new.length<=vs.length/\K (.own i o (n+(m+1)) c) (aR S i (.row (aG (o+n*size) new vs) t)))/\
    (c<n+(m+1)->aJd el ((vs.drop o).take (n*size)++new) (n+(m+1)) S K)
   | _=>False
  | .pO i q o n c=>match S i with
   | some (.jK vs t q')=>q'=q/\t=el/\((n+(m+1))*bytes<=140737488355328/\(n+(m+1))<=140737488355328)/\
    (n+(m+1)<=c->o+n*size+new.length<=vs.length/\K (.pO i q o (n+(m+1)) c) (aR S i (.jK (aG (o+n*size) new vs) t q)))/\
    (c<n+(m+1)->o=0/\n=q/\c=q/\vs.length=q*size/\K (.acc i (q+(m+1))) (aR S i (.jK (vs++new) el (q+(m+1)))))
   | _=>False
  | _=>False
def cP (P:Program) (v:V) (K:V->Prop):Prop:=match v with
 | .ptr i o=>K (.ptr i o)
 | .sS O cs o=>K (.sS O cs o)
 | .nZ i n o=>K (.nZ i n o)
 | .func f a c=>K (.func f a c)
 | .iface t w=>K (.iface t w)
 | .DO s v=>match v with
  | .iface t w=>match DG P t s with
   | some _=>K (.DO s (.iface t w))
   | none=>False
  | _=>False
 | _=>False
abbrev aJe:=FuncId->List V->Hp->KV->Prop
def aMX (P:Program) (call:aJe) (r:V) (m:String) (args:List V) (S:Hp) (K:KV):Prop:=match r with
 | .iface t v=>match DG P t m with
  | some g=>call g (v::args) S K
  | none=>False
 | _=>False
def Jo (l:Nat) (S:Hp) (k:Hp->Prop):Prop:=match S l with
 | some (.loop ls vs n ps as bo .ready pe)=>k (aR S l (.loop ls vs n ps as bo .busy pe))
 | _=>False
def PN (l:Nat) (st:LoopState) (pe:Option Code) (b:Bool) (S:Hp) (K:KV):Prop:=match S l with
 | some (.loop ls vs n ps as bo _ _)=>K (.bool b) (aR S l (.loop ls vs n ps as bo st pe))
 | _=>False
def Tv (l:Nat) (S:Hp) (k:Option Code->Hp->Prop):Prop:=match S l with
 | some (.loop ls vs n ps as bo st pe)=>match st with
  | .busy=>False
  | _=>k pe (aR S l (.loop ls vs n ps as bo .exhausted pe))
 | _=>False
def ZB (pe:Option Code) (kn kr:Prop) (ke:Nat->Prop):Prop:=match pe with
 | none=>kn
 | some .ret=>kr
 | some (.exit id)=>ke id
 | _=>False
def Bl (l:Nat) (S:Hp) (p:Prop):Prop:=match S l with
 | some (.loop _ _ _ _ _ _ _ _)=>p
 | _=>False
abbrev aBx (i id:Nat) (a b:Prop):Prop:=Bool.rec (motive:=fun _=>Prop) b a (Nat.beq i id)
def Bn:V->Bool
 | .int _ _ | .bool _ | .str _ | .list _ _ _ | .nil | .ptr _ _ | .sD | .sS _ _ _ | .nZ _ _ _ | .acc _ _ | .pO _ _ _ _ _ | .own _ _ _ _ | .tM _ | .Hx | .Hw | .MP=>true
 | _=>false
def Bo:V->Bool
 | .func _ a c=>a.all Bn&&c.all Bn
 | v=>Bn v
def Bp:V->Bool
 | .agg cs=>cs.all Bo
 | v=>Bo v
def XD:V->Bool
 | .tuple cs=>cs.all Bp
 | v=>Bp v
def bH (v u:V) (k:Prop):Prop:=v=u/\XD v=true/\k
def aE7 (w:Bool) (v:V) (k:Bool->Prop):Prop:=match v with
 | .bool b=>match b,w with | true,true=>k true | false,false=>k true | _,_=>k false
 | .tuple []=>k false
 | _=>False
def aB (w:Bool) (v:V) (op:KV->Prop) (S:Hp) (k:KV):Prop:=aE7 w v fun b=>match b with | true=>op k | false=>k JA S
def aMY (u:V) (k:Prop):Prop:=match u with | .tuple []=>k | _=>False
def nF (w:Bool) (v u:V) (op:Prop->Prop) (k:Prop):Prop:=aE7 w v fun b=>match b with | true=>op k | false=>aMY u k
def aC (most:Nat) (p:Prop):Prop:=Nat.rec (motive:=fun _=>Prop->Prop) (fun x=>x) (fun _ _ x=>x) most p
theorem aP (most:Nat) (p:Prop):aC most p=p:=by cases most<;>rfl
def MR (op:BinOp) (k:IntKind) (x y:Int) (K:V->Prop):Prop:=match op with
 | .add=>K (.int k (dW k (x+y)))
 | .sub=>K (.int k (dW k (x-y)))
 | .mul=>K (.int k (dW k (x*y)))
 | .quo=>y≠0/\K (.int k (dW k (x.tdiv y)))
 | .rem=>y≠0/\K (.int k (x.tmod y))
 | .and=>K (.int k (k.wrap (BitVec.ofInt k.bits x &&& BitVec.ofInt k.bits y).toNat))
 | .or=>K (.int k (k.wrap (BitVec.ofInt k.bits x ||| BitVec.ofInt k.bits y).toNat))
 | .xor=>K (.int k (k.wrap (BitVec.ofInt k.bits x ^^^ BitVec.ofInt k.bits y).toNat))
 | .andNot=>K (.int k (k.wrap (BitVec.ofInt k.bits x &&& ~~~ BitVec.ofInt k.bits y).toNat))
 | .eql=>K (.bool (decide (x=y)))
 | .neq=>K (.bool (!decide (x=y)))
 | .lss=>K (.bool (decide (x<y)))
 | .leq=>K (.bool (decide (x<=y)))
 | .gtr=>K (.bool (decide (y<x)))
 | .geq=>K (.bool (decide (y<=x)))
 | _=>False
def aKt (op:BinOp) (k:IntKind) (x y:Int) (K:V->Prop):Prop:=0<=y/\match op with
 | .shl=>K (.int k (dW k (x*2 ^ (min y.toNat k.bits))))
 | .shr=>K (.int k (x.fdiv (2 ^ (min y.toNat k.bits))))
 | _=>False
def aE8 (op:BinOp) (a b:List UInt8) (K:V->Prop):Prop:=match op with
 | .add=>a.length+b.length<9223372036854775808/\K (.str (a++b))
 | .eql=>K (.bool (decide (a=b)))
 | .neq=>K (.bool (!decide (a=b)))
 | .lss=>K (.bool (Op.bytesLess a b))
 | _=>False
def aMZ (op:BinOp) (a b:Bool) (K:V->Prop):Prop:=match op with
 | .eql=>K (.bool (decide (a=b)))
 | .neq=>K (.bool (!decide (a=b)))
 | _=>False
def vF:BinOp->Bool
 | .shl | .shr=>true
 | _=>false
def aBy (P:Program) (t:TypeId):Bool:=match P.underlying t with | some .bool=>true | _=>false
inductive NK where
 | ptr
 | slice
 | map
 | func
 | iface
def TY:V->Option (NK×Bool)
 | .ptr _ _=>some (.ptr,false)
 | .sS _ _ _=>some (.ptr,false)
 | .nZ _ _ _=>some (.ptr,false)
 | .sD=>some (.ptr,true)
 | .own _ _ _ _=>some (.slice,false)
 | .acc _ _=>some (.slice,false)
 | .pO _ _ _ _ _=>some (.slice,false)
 | .list _ (_::_) _=>some (.slice,false)
 | .nil=>some (.slice,true)
 | .tM _=>some (.map,false)
 | .Hx=>some (.map,true)
 | .func _ _ _=>some (.func,false)
 | .DO _ _=>some (.func,false)
 | .MP=>some (.func,true)
 | .iface _ _=>some (.iface,false)
 | .Hw=>some (.iface,true)
 | _=>none
def PO (P:Program) (t:TypeId):Option NK:=match P.underlying t with
 | some (.pointer _)=>some .ptr
 | some (.slice _)=>some .slice
 | some (.map _ _)=>some .map
 | some (.func _ _ _)=>some .func
 | some (.interface _)=>some .iface
 | _=>none
def Zr (P:Program) (op:BinOp) (t:TypeId) (a b:V) (K:V->Prop):Prop:=match a with
 | .list _ [] _=>match b with
  | .nil=>PO P t=some .slice/\match op with
   | .eql=>K (.bool true)/\K (.bool false)
   | .neq=>K (.bool true)/\K (.bool false)
   | _=>False
  | _=>False
 | _=>False
def Fa (P:Program) (op:BinOp) (t:TypeId) (a b:V) (K:V->Prop):Prop:=match TY a with
 | some (k,x)=>match TY b with
  | some (l,y)=>k=l/\PO P t=some k/\(x=true\/y=true)/\(x=true->y=true->k≠ .iface)/\match op with
   | .eql=>K (.bool (x&&y))
   | .neq=>K (.bool (!(x&&y)))
   | _=>False
  | none=>False
 | none=>Zr P op t a b K
def aE (P:Program) (op:BinOp) (t:TypeId) (a b:V) (K:V->Prop):Prop:=match a with
 | .int j x=>match b with
  | .int k y=>match vF op with
   | true=>aKt op j x y K
   | false=>j=k/\MR op j x y K
  | _=>False
 | .str x=>match b with | .str y=>aE8 op x y K | _=>False
 | .bool x=>match b with | .bool y=>aBy P t=true/\aMZ op x y K | _=>False
 | a=>Fa P op t a b K
def aKu (big:Bool) (a b:V) (K:V->Prop):Prop:=match a with
 | .int j x=>match b with
  | .int _ y=>K (.int j (match big with | true=>max x y | false=>min x y))
  | _=>False
 | _=>False
inductive CT where
 | int (k:IntKind)
 | str
 | bool
inductive KSh where
 | one (c:CT)
 | many (l:List CT)
def XE (P:Program) (t:TypeId):Option CT:=match P.underlying t with
 | some (.int k)=>some (.int k)
 | some .string=>some .str
 | some .bool=>some .bool
 | _=>none
def FQ (P:Program):List Field->Option (List CT)
 | []=>some []
 | f::fs=>match XE P f.type with
  | some c=>match FQ P fs with
   | some l=>some (c::l)
   | none=>none
  | none=>none
def Fb (P:Program) (t:TypeId):Option KSh:=match XE P t with
 | some c=>some (.one c)
 | none=>match IN P t with
  | some fs=>match FQ P fs with
   | some l=>some (.many l)
   | none=>none
  | none=>none
def aCP:CT->V->Prop
 | .int k,.int j _=>j=k
 | .str,.str _=>True
 | .bool,.bool _=>True
 | _,_=>False
def ZD:List CT->List V->Prop
 | [],[]=>True
 | c::l,v::vs=>aCP c v/\ZD l vs
 | _,_=>False
def RB:KSh->V->Prop
 | .one c,v=>aCP c v
 | .many l,.agg cs=>ZD l cs
 | _,_=>False
open Classical in
def Ak:List (V×V)->V->Option V
 | [],_=>none
 | e::es,a=>if a=e.1 then some e.2 else Ak es a
open Classical in
def XF:List (V×V)->V->V->List (V×V)
 | [],a,x=>[(a,x)]
 | e::es,a,x=>if a=e.1 then(a,x)::es else e::XF es a x
def aKv (P:Program) (op:BinOp) (t:TypeId) (a b:V) (K:V->Prop):Prop:=match Fb P t with
 | some (.many l)=>match a with
  | .agg x=>match b with
   | .agg y=>ZD l x/\ZD l y/\match op with
    | .eql=>(x=y->K (.bool true))/\(x≠y->K (.bool false))
    | .neq=>(x=y->K (.bool false))/\(x≠y->K (.bool true))
    | _=>False
   | _=>False
  | _=>False
 | _=>False
def Bq (S:Hp) (K:KV):Prop:=∀i,S i=none->K (.tM i) (aR S i (.map []))
def Nm (ok:Bool) (v:V) (is:Bool):V:=match ok with | true=> .tuple [v,.bool is] | false=>v
def TZ (sh:KSh) (z:V) (ok:Bool) (m a:V) (S:Hp) (K:KV):Prop:=match m with
 | .tM i=>match S i with
  | some (.map es)=>RB sh a/\(∀e∈es,RB sh e.1)/\(∀v,Ak es a=some v->K (Nm ok v true) S)/\(Ak es a=none->K (Nm ok z false) S)
  | _=>False
 | _=>False
def XG (sh:KSh) (m a x:V) (S:Hp) (k:Hp->Prop):Prop:=match m with
 | .tM i=>match S i with
  | some (.map es)=>RB sh a/\(∀e∈es,RB sh e.1)/\k (aR S i (.map (XF es a x)))
  | _=>False
 | _=>False
def aE9 (x:V) (S:Hp) (K:KV):Prop:=match x with
 | .tM i=>match S i with
  | some (.map es)=>K (.int .i64 (.ofNat es.length)) S
  | _=>False
 | _=>False
def Fd (r:V) (S:Hp) (K:KV):Prop:=match r with
 | .int _ _=>Bq S K
 | _=>False
def Nn (x:V) (S:Hp) (K:KV):Prop:=match x with
 | .tM m=>match S m with
  | some (.map es)=>∀bs ck,bs.length=es.length->bs.Pairwise (· < ·)->(∀b∈bs,b<ck)->∀i,aR S m (.TW es bs ck) i=none->K (.ptr i 0) (aR (aR S m (.TW es bs ck)) i (.iter m ck [] ck))
  | _=>False
 | _=>False
def Zs (x:V) (S:Hp) (K:KV):Prop:=match x with
 | .ptr i 0=>match S i with
  | some (.iter m since seen last)=>match S m with
   | some (.TW es bs ck)=>(∀b∈bs,b<since)/\since<=last/\
    ((∀b∈bs,b∈seen)->K (.tuple [.bool false]) (aR S m (.map es)))/\
    ∀(j:Nat) (e:V×V) (b:Nat),es[j]? =some e->bs[j]? =some b->¬b∈seen->K (.tuple [.bool true,e.1,e.2]) (aR S i (.iter m since (seen++[b]) ck))
   | _=>False
  | _=>False
 | _=>False
def Np (x:V) (S:Hp) (K:KV):Prop:=match x with
 | .ptr i 0=>match S i with
  | some (.iter m _ seen last)=>match S m with
   | some (.TW es bs ck)=>ck=last/\bs.Pairwise (· < ·)/\∃(j:Nat) (e:V×V) (b:Nat),es[j]? =some e/\bs[j]? =some b/\seen.getLast?=some b/\K (.tuple [e.1,e.2]) S
   | _=>False
  | _=>False
 | _=>False
def Fe (d:Nat) (o:Option V) (k:Nat->Prop):Prop:=match o with
 | none=>k d
 | some (.int _ (.ofNat n))=>k n
 | _=>False
def HK (len cap:Nat) (lo hi mx:Option V) (k:Nat->Nat->Nat->Prop):Prop:=Fe cap mx fun m=>Fe len hi fun h=>Fe 0 lo fun l=>l<=h/\h<=m/\m<=cap/\k l h m
def aM0 (x:V) (lo hi:Option V) (K:V->Prop):Prop:=match x with
 | .str s=>HK s.length s.length lo hi none fun l h _=>K (.str ((s.take h).drop l))
 | _=>False
def Zt (len size:Nat) (x:V) (lo hi mx:Option V) (K:V->Prop):Prop:=match x with
 | .ptr i o=>HK len len lo hi mx fun l h m=>K (.own i (if m=l then o else o+l*size) (h-l) (m-l))
 | _=>False
def JB (el size:Nat) (x:V) (lo hi mx:Option V) (S:Hp) (K:V->Prop):Prop:=match x with
 | .own i o n c=>HK n c lo hi mx fun l h m=>K (.own i (if m=l then o else o+l*size) (h-l) (m-l))
 | .list O cs n=>match mx with
  | some _=>HK n n lo hi mx fun l h m=>l<m/\h*size<=cs.length/\K (.list (.cut O (l*size) (h-l) (m-l)) ((cs.drop (l*size)).take ((h-l)*size)) (h-l))
  | none=>False
 | .nil=>HK 0 0 lo hi mx fun _ _ _=>K .nil
 | .acc i n=>match mx with
  | none=>match S i with
   | some (.jK _ t n')=>n'=n/\t=el/\HK n n lo hi none fun l h m=>(l<m->K (.pO i n (0+l*size) (h-l) (m-l)))/\(m=l->K (.emp i n))
   | _=>False
  | some _=>False
 | .pO i n o k c=>match mx with
  | none=>match S i with
   | some (.jK _ t n')=>n'=n/\t=el/\HK k c lo hi none fun l h m=>(l<m->K (.pO i n (o+l*size) (h-l) (m-l)))/\(m=l->K (.emp i n))
   | _=>False
  | some _=>False
 | _=>False
def MS (zero:List Value) (x:V) (S:Hp) (k:Hp->Prop):Prop:=match x with
 | .nil=>k S
 | .own i o n _=>match n with
  | 0=>k S
  | n+1=>xF zero fun z=>match S i with
   | some (.row vs t)=>o+(List.replicate (n+1) z).flatten.length<=vs.length/\k (aR S i (.row (aG o (List.replicate (n+1) z).flatten vs) t))
   | _=>False
 | .acc i q=>match q with
  | 0=>k S
  | n+1=>xF zero fun z=>match S i with
   | some (.jK vs t m)=>m=q/\(List.replicate (n+1) z).flatten.length<=vs.length/\k (aR S i (.jK (aG 0 (List.replicate (n+1) z).flatten vs) t m))
   | _=>False
 | .pO i q o n _=>match n with
  | 0=>k S
  | n+1=>xF zero fun z=>match S i with
   | some (.jK vs t m)=>m=q/\o+(List.replicate (n+1) z).flatten.length<=vs.length/\k (aR S i (.jK (aG o (List.replicate (n+1) z).flatten vs) t m))
   | _=>False
 | _=>False
def aFa (size:Nat) (d x:V) (S:Hp) (K:KV):Prop:=HJ size x S fun m new=>match d with
 | .own i o n _=>m<=n/\match m with
  | 0=>K (.int .i64 (.ofNat 0)) S
  | q+1=>new.all tO=true/\match S i with
   | some (.row vs t)=>o+new.length<=vs.length/\K (.int .i64 (.ofNat (q+1))) (aR S i (.row (aG o new vs) t))
   | _=>False
 | _=>False
def vMk (el:TypeId) (bytes:Nat) (zero:List Value) (l c:V) (S:Hp) (K:KV):Prop:=match l with
 | .int _ (.ofNat l)=>match c with
  | .int _ (.ofNat c)=>l<=c/\bytes*c<=1099511627776/\c<=65536/\xF zero fun z=>aE6 (List.replicate c z).flatten el S fun i S=>K (.own i 0 l c) S
  | _=>False
 | _=>False
def NX (op:UnOp) (a:V) (K:V->Prop):Prop:=match op with
 | .not=>match a with | .bool b=>K (.bool (!b)) | _=>False
 | .neg=>match a with | .int k n=>K (.int k (dW k (Int.sub 0 n))) | _=>False
 | .xor=>match a with | .int k n=>K (.int k (k.wrap (BitVec.ofInt k.bits (if k.signed then-1 else k.max) ^^^ BitVec.ofInt k.bits n).toNat)) | _=>False
 | _=>False
section
variable{α β:Type}
abbrev ED (n:Nat) (z:β) (s:Nat->β):β:=Nat.rec (motive:=fun _=>β) z (fun p _=>s p) n
abbrev aFh (o:Option α) (z:β) (s:α->β):β:=Option.rec (motive:=fun _=>β) z s o
abbrev aBA (z:β) (s:Nat->β->β) (n:Nat):β:=Nat.rec (motive:=fun _=>β) z s n
abbrev FT (z:β) (s:α->List α->β->β) (l:List α):β:=List.rec (motive:=fun _=>β) z s l
abbrev aFi (z:β) (s:Option α->Tr α->Tr α->β->β->β) (t:Tr α):β:=Tr.rec (motive:=fun _=>β) z s t
abbrev aKx (t:Tr α) (z:β) (s:Option α->Tr α->Tr α->β):β:=Tr.rec (motive:=fun _=>β) z (fun v l r _ _=>s v l r) t
end
section
variable{α:Type}
abbrev aCU (t:Tr α) (n:Nat) (k:α->Prop):Prop:=
 aFi (β:=Nat->Prop) (fun _=>False) (fun v _ _ gl gr n=>ED n (aFh v False k) fun p=>ED (Nat.mod p 2) (gl (Nat.div p 2)) fun _=>gr (Nat.div p 2)) t n
abbrev aCV (x:α) (f:Nat):Tr α->Nat->(Tr α->Prop)->Prop:=
 aBA (β:=Tr α->Nat->(Tr α->Prop)->Prop) (fun t _ k=>k t)
  (fun _ ih t n k=>aKx t
   (ED n (k (.node (some x) .leaf .leaf)) fun p=>ED (Nat.mod p 2) (ih .leaf (Nat.div p 2) fun c=>k (.node none c .leaf)) fun _=>ih .leaf (Nat.div p 2) fun c=>k (.node none .leaf c))
   (fun v l r=>ED n (k (.node (some x) l r)) fun p=>ED (Nat.mod p 2) (ih l (Nat.div p 2) fun c=>k (.node v c r)) fun _=>ih r (Nat.div p 2) fun c=>k (.node v l c))) f
abbrev aCW (t:Tr α) (n:Nat) (k:Prop):Prop:=
 aFi (β:=Nat->Prop) (fun _=>k) (fun v _ _ gl gr n=>ED n (aFh v k fun _=>False) fun p=>ED (Nat.mod p 2) (gl (Nat.div p 2)) fun _=>gr (Nat.div p 2)) t n
abbrev aFj (t:Tr α) (n:Nat) (k:Tr α->Prop):Prop:=
 aFi (β:=Nat->(Tr α->Prop)->Prop) (fun _ k=>k .leaf) (fun v l r dl dr n k=>ED n (k (.node none l r)) fun p=>ED (Nat.mod p 2) (dl (Nat.div p 2) fun c=>k (.node v c r)) fun _=>dr (Nat.div p 2) fun c=>k (.node v l c)) t n k
end
structure Nv where
 t:Tr V
 n:Nat
structure VA where
 tmps:Nv
 g:Nat
abbrev Hz (T:Nv) (i:Nat) (k:V->Prop):Prop:=aCU T.t i k
abbrev PQ (v:V) (T:Nv) (i:Nat) (k:Nv->Prop):Prop:=match T with
 | ⟨t,n⟩=>match Nat.blt i n with
  | true=>aCV v (Nat.succ i) t i fun t=>k ⟨t,n⟩
  | false=>False
abbrev Fi (A:VA) (d:Tmp) (v:V) (k:VA->Prop):Prop:=match A with
 | ⟨T,g⟩=>PQ v T d fun T=>k ⟨T,g⟩
abbrev aM2 (n:Nat) (args:List V) (k:Nv->Prop):Prop:=
 FT (β:=Nat->Nv->Prop) (fun _ T=>k T) (fun a _ ih i T=>PQ a T i fun T=>ih (Nat.succ i) T) args 0 ⟨.leaf,n⟩
def ofC (v:Value):Option V:=match v with
 | .agg ⟨cs⟩=>match IZ cs with | some l=>some (.agg l) | none=>none
 | v=>ofV v
structure EvV where
 f:VA->(V->Prop)->Prop
def uE (x:Operand):EvV:=match x with
 | .tmp t=>⟨fun A k=>Hz A.tmps t k⟩
 | .const v=>match ofC v with | some d=>⟨fun _ k=>k d⟩ | none=>⟨fun _ _=>False⟩
 | .global _=>⟨fun _ _=>False⟩
 | .func f=>⟨fun _ k=>k (.func f [] [])⟩
structure aM3 where
 f:VA->(List V->Prop)->Prop
def aCX (xs:List Operand):aM3:=FT (β:=aM3) ⟨fun _ k=>k []⟩ (fun x _ ih=>⟨fun A k=>(uE x).f A fun v=>ih.f A fun vs=>k (v::vs)⟩) xs
structure PtV where
 f:VA->(List (Nat×Nat×V)->Prop)->Prop
def XL (place:Nat->Option (Nat×Nat)) (ps:List (Nat×Operand)):PtV:=
 FT (β:=PtV) ⟨fun _ k=>k []⟩ (fun p _ ih=>match place p.1 with
  | some (off,size)=>⟨fun A k=>(uE p.2).f A fun v=>ih.f A fun l=>k ((off,size,v)::l)⟩
  | none=>⟨fun _ _=>False⟩) ps
inductive Py (S' S:Hp):V->Dt->Prop
 | int {k:IntKind} {z:Int}:Py S' S (.int k z) (.int k z)
 | bool {b:Bool}:Py S' S (.bool b) (.bool b)
 | str {l:List UInt8}:Py S' S (.str l) (.str l)
 | list {O:Tag} {cs:List Dt} {n:Nat}:Py S' S (.list O cs n) (.list cs n)
 | nil:Py S' S .nil (.list [] 0)
 | acc {i n:Nat} {vs:List V} {t:TypeId} {cs:List Dt} (h:S i=some (.jK vs t n)) (hn:S' i=none) (hl:vs.length=cs.length) (hr:∀(j:Nat) (v:V) (d:Dt),vs[j]? =some v->cs[j]? =some d->Py S' S v d):Py S' S (.acc i n) (.list cs n)
 | pO {i n o k c:Nat} {vs:List V} {t:TypeId} {cs:List Dt} (h:S i=some (.jK vs t n)) (hn:S' i=none) (hc:k<=c) (hl:o+cs.length<=vs.length) (hr:∀(j:Nat) (v:V) (d:Dt),vs[o+j]? =some v->cs[j]? =some d->Py S' S v d):Py S' S (.pO i n o k c) (.list cs k)
 | own {i o n c:Nat} {vs:List V} {t:TypeId} {cs:List Dt} (h:S i=some (.row vs t)) (hn:S' i=none) (hc:n<=c) (hl:o+cs.length<=vs.length) (hr:∀(j:Nat) (v:V) (d:Dt),vs[o+j]? =some v->cs[j]? =some d->Py S' S v d):Py S' S (.own i o n c) (.list cs n)
inductive Fz1 (S' S:Hp) (O:Tag):V->V->Prop
 | rK (v:V):Fz1 S' S O v v
 | dat {v:V} {d:Dt} (h:Py S' S v d):Fz1 S' S O v (T O d)
def FzL (S' S:Hp) (O:Nat->Tag) (vs us:List V):Prop:=us.length=vs.length/\∀(j:Nat) (v u:V),vs[j]? =some v->us[j]? =some u->Fz1 S' S (O j) v u
inductive Fz (S' S:Hp) (O:Nat->Tag):V->V->Prop
 | one {v u:V} (h:Fz1 S' S (O 0) v u):Fz S' S O v u
 | agg {vs us:List V} (h:FzL S' S O vs us):Fz S' S O (.agg vs) (.agg us)
 | tup {vs us:List V} (h:FzL S' S O vs us):Fz S' S O (.tuple vs) (.tuple us)
 | aOU {as bs vs us:List V} (hl:bs.length=as.length) (h:FzL S' S (fun k=>O (k+(vs.length+1))) (as++vs) (bs++us)):Fz S' S O (.tuple (.agg as::vs)) (.tuple (.agg bs::us))
def bD (v:V) (S:Hp) (K:KV):Prop:=∃(S':Hp) (u:(Nat->Tag)->V),gA S' S/\(∀O,Fz S' S O v (u O))/\∀O,K (u O) S'
def jC (S:Hp) (k:Hp->Prop):Prop:=∃S',gA S' S/\k S'
structure VE where
 C:aJe
 R:Nat->List V->Hp->KV->Prop
 most:Nat
def VE.call (E:VE) (c:FuncId) (args:List V) (S:Hp) (K:KV):Prop:=∃(S':Hp) (us:(Nat->Tag)->List V),gA S' S/\(∀O,FzL S' S O args (us O))/\∀O,E.C c (us O) S' K
def fF (E:VE) (f:V) (args:List V) (S:Hp) (K:KV):Prop:=match f with
 | .func g a c=>E.call g (a++args++c) S K
 | .yield l=>E.R l args S K
 | _=>False
def XK (E:VE) (f:V) (ls:List Nat) (vs:List V) (n:Nat) (ps:List Tmp) (as bo:Code) (S:Hp) (k:Option Code->Hp->Prop):Prop:=match f with
 | .func g a c=>∀l,S l=none->E.call g (a++[.yield l]++c) (aR S l (.loop ls vs n ps as bo .ready none)) fun _ S=>Tv l S k
 | _=>False
structure OpV where
 f:VE->VA->Hp->KV->Prop
def yF:OpV:=⟨fun _ _ _ _=>False⟩
def aFk (P:Program) (c:Call):OpV:=
 match c.callee with
 | .builtin .len=>match c.argTypes.toList,c.args.toList with
  | [t],[a]=>match isSlice P t,P.underlying t with
   | some _,_=>⟨fun _ A S K=>(uE a).f A fun v=>dJ v fun v=>K v S⟩
   | none,some .string=>⟨fun _ A S K=>(uE a).f A fun v=>uD v fun v=>K v S⟩
   | none,some (.map _ _)=>⟨fun _ A S K=>(uE a).f A fun v=>aE9 v S K⟩
   | _,_=>yF
  | _,_=>yF
 | .builtin .append=>match c.argTypes.toList,c.args.toList with
  | [sT,xT],[a,b]=>match isSlice P sT,Cq (P.underlying xT)with
   | some el,true=>match P.info? el with
    | some info=>match info.size,info.zero with
     | n+1,some z=>match Nat.beq z.cells.size (n+1),Nat.beq ((bP P el).getD 0) (n+1)with
      | true,true=>⟨fun _ A S K=>(uE a).f A fun a=>(uE b).f A fun b=>sE el (n+1) info.bytes a b S K⟩
      | _,_=>yF
     | _,_=>yF
    | none=>yF
   | _,_=>yF
  | _,_=>yF
 | .builtin .min=>match c.args.toList with
  | [a,b]=>⟨fun _ A S K=>(uE a).f A fun a=>(uE b).f A fun b=>aKu false a b fun v=>K v S⟩
  | _=>yF
 | .builtin .max=>match c.args.toList with
  | [a,b]=>⟨fun _ A S K=>(uE a).f A fun a=>(uE b).f A fun b=>aKu true a b fun v=>K v S⟩
  | _=>yF
 | .builtin .clear=>match c.argTypes.toList,c.args.toList with
  | [t],[a]=>match isSlice P t with
   | some el=>match bP P el,sH P el with
    | some (m+1),some zero=>match Nat.beq zero.length (m+1),pW bA zero with
     | true,true=>⟨fun _ A S K=>(uE a).f A fun a=>MS zero a S fun S=>K JA S⟩
     | _,_=>yF
    | _,_=>yF
   | none=>yF
  | _,_=>yF
 | .builtin .copy=>match c.argTypes.toList,c.args.toList with
  | dT::_,[a,b]=>match isSlice P dT with
   | some el=>match bP P el with
    | some (m+1)=>⟨fun _ A S K=>(uE a).f A fun a=>(uE b).f A fun b=>aFa (m+1) a b S K⟩
    | _=>yF
   | none=>yF
  | _,_=>yF
 | .builtin _=>yF
 | .value f=>⟨fun E A S K=>(aCX c.args.toList).f A fun args=>(uE f).f A fun f=>fF E f args S K⟩
 | .invoke r m=>⟨fun E A S K=>(aCX c.args.toList).f A fun args=>(uE r).f A fun v=>aMX P E.call v m args S K⟩
structure OvO where
 f:VA->(Option V->Prop)->Prop
def evO (x:Option Operand):OvO:=match x with
 | none=>⟨fun _ k=>k none⟩
 | some x=>⟨fun A k=>(uE x).f A fun v=>k (some v)⟩
def aJf (mx hi:Option Operand):Bool:=match mx,hi with | some _,none=>false | _,_=>true
def Zv (P:Program) (t:TypeId) (x:Operand) (lo hi mx:Option Operand):OpV:=
 match isSlice P t with
  | some el=>match bP P el with
   | some size=>⟨fun _ A S K=>(uE x).f A fun x=>(evO lo).f A fun lo=>(evO hi).f A fun hi=>(evO mx).f A fun mx=>JB el size x lo hi mx S fun v=>K v S⟩
   | none=>yF
  | none=>match P.underlying t with
   | some .string=>match mx with
    | none=>⟨fun _ A S K=>(uE x).f A fun x=>(evO lo).f A fun lo=>(evO hi).f A fun hi=>aM0 x lo hi fun v=>K v S⟩
    | some _=>yF
   | some (.array len el)=>match bP P el with
    | some size=>⟨fun _ A S K=>(uE x).f A fun x=>(evO lo).f A fun lo=>(evO hi).f A fun hi=>(evO mx).f A fun mx=>Zt len size x lo hi mx fun v=>K v S⟩
    | none=>yF
   | _=>yF
def RF (P:Program) (t:TypeId) (l c:Operand):OpV:=
 match isSlice P t with
  | some el=>match P.info? el,sH P el with
   | some info,some zero=>match Nat.beq zero.length info.size,info.size,pW bA zero with
    | true,_+1,true=>⟨fun _ A S K=>(uE l).f A fun l=>(uE c).f A fun c=>vMk el info.bytes zero l c S K⟩
    | _,_,_=>yF
   | _,_=>yF
  | none=>yF
def Nx (P:Program) (t:TypeId) (x ix:Operand) (ok:Bool):OpV:=match BG P t with
 | some (kt,et)=>match Fb P kt,zeroV P et with
  | some sh,some z=>match ofC z with
   | some z=>⟨fun _ A S K=>(uE x).f A fun x=>(uE ix).f A fun ix=>TZ sh z ok x ix S K⟩
   | none=>yF
  | _,_=>yF
 | none=>yF
def Ny (P:Program) (t:TypeId) (m a x:Operand):OpV:=match BG P t with
 | some (kt,_)=>match Fb P kt with
  | some sh=>⟨fun _ A S K=>(uE m).f A fun m=>(uE a).f A fun a=>(uE x).f A fun x=>XG sh m a x S fun S=>K JA S⟩
  | none=>yF
 | none=>yF
def Tz (P:Program) (t:TypeId):Bool:=match P.underlying t with | some (.interface _)=>false | some _=>true | none=>false
def opV (P:Program) (o:Oper):OpV:=
 match o.op with
 | .move x=>⟨fun _ A S K=>(uE x).f A fun v=>K v S⟩
 | .assign x=>⟨fun _ A S K=>(uE x).f A fun v=>K v S⟩
 | .pick c a b=>⟨fun E A S K=>(uE c).f A fun c=>(uE a).f A fun a=>(uE b).f A fun b=>aC E.most (cK c a b fun v=>K v S)⟩
 | .alloc t=>match sH P t with
  | some z=>match pW bA z with
   | true=>⟨fun _ _ S K=>gZ z t S K⟩
   | false=>yF
  | none=>yF
 | .box t x=>⟨fun _ A S K=>(uE x).f A fun v=>tW t v S K⟩
 | .build t ps=>match sH P t,P.underlying t with
  | some zero,some (.struct fields)=>match placesOf P fields.toList with
   | some pl=>match pW bA zero,ps.toList.all fun p=>(pl[p.1]?).isSome with
    | true,true=>⟨fun _ A S K=>(XL (pl[·]?) ps.toList).f A fun l=>iQ zero l fun v=>K v S⟩
    | _,_=>yF
   | none=>yF
  | some zero,some (.array _ elem)=>match bP P elem with
   | some size=>match pW bA zero with
    | true=>⟨fun _ A S K=>(XL (fun i=>some (i*size,size)) ps.toList).f A fun l=>iQ zero l fun v=>K v S⟩
    | false=>yF
   | none=>yF
  | _,_=>yF
 | .buildSlice t len ps=>match isSlice P t with
  | some elem=>match bP P elem,sH P elem with
   | some (size+1),some zero=>match Nat.ble (len*(size+1)) 16777216,Nat.beq zero.length (size+1)with
    | true,true=>match pW bA zero with
     | true=>⟨fun _ A S K=>(XL (fun i=>some (i*(size+1),size+1)) ps.toList).f A fun l=>cQ elem len zero l S K⟩
     | false=>yF
    | _,_=>yF
   | _,_=>yF
  | none=>yF
 | .load t a=>match sY P t,bP P t with
  | some false,_=>⟨fun _ A S K=>(uE a).f A fun a=>aH a S K⟩
  | some true,some (n+1)=>⟨fun _ A S K=>(uE a).f A fun a=>iP (n+1) a S K⟩
  | _,_=>yF
 | .store t a x=>match bP P t with
  | some n=>⟨fun _ A S K=>(uE a).f A fun a=>(uE x).f A fun x=>sU n a x S fun S=>K JA S⟩
  | none=>yF
 | .nilCheck x=>⟨fun _ A S K=>(uE x).f A fun v=>cP P v fun v=>K v S⟩
 | .binOp op t x y _=>match sY P t with
  | some true=>⟨fun _ A S K=>(uE x).f A fun a=>(uE y).f A fun b=>aKv P op t a b fun v=>K v S⟩
  | _=>⟨fun _ A S K=>(uE x).f A fun a=>(uE y).f A fun b=>aE P op t a b fun v=>K v S⟩
 | .unOp op _ x=>⟨fun _ A S K=>(uE x).f A fun a=>NX op a fun v=>K v S⟩
 | .convert s d x=>match P.underlying s,P.underlying d with
  | some (.int _),some (.int k)=>⟨fun _ A S K=>(uE x).f A fun a=>GK k a fun v=>K v S⟩
  | _,_=>yF
 | .makeInterface t x=>match Tz P t with
  | true=>⟨fun _ A S K=>(uE x).f A fun v=>K (.iface t v) S⟩
  | false=>yF
 | .makeFunc fn first cap=>match fn with
  | .func f=>⟨fun _ A S K=>(aCX first.toList).f A fun a=>(aCX cap.toList).f A fun b=>K (.func f a b) S⟩
  | .method s=>match first.toList,cap.toList with
   | [x],[]=>⟨fun _ A S K=>(uE x).f A fun v=>K (.DO s v) S⟩
   | _,_=>yF
  | _=>yF
 | .fieldAddr s x f=>match wR P s f with
  | some fd=>match bP P fd.type with
   | some (_+1)=>⟨fun _ A S K=>(uE x).f A fun x=>aL fd.offset x fun v=>K v S⟩
   | _=>yF
  | none=>yF
 | .field t x f=>match wR P t f with
  | some fd=>match sY P fd.type,bP P fd.type with
   | some false,_=>⟨fun _ A S K=>(uE x).f A fun x=>Zp fd.offset x fun v=>K v S⟩
   | some true,some n=>⟨fun _ A S K=>(uE x).f A fun x=>Nl fd.offset n x fun v=>K v S⟩
   | _,_=>yF
  | none=>yF
 | .indexAddr t x ix=>match isSlice P t with
  | some el=>match bP P el with
   | some n=>⟨fun _ A S K=>(uE x).f A fun x=>(uE ix).f A fun ix=>kX n x ix fun v=>K v S⟩
   | none=>yF
  | none=>match aHF P t with
   | some (len,n)=>⟨fun _ A S K=>(uE x).f A fun x=>(uE ix).f A fun ix=>aBw len n x ix fun v=>K v S⟩
   | none=>yF
 | .index t x ix=>match P.underlying t with
  | some .string=>⟨fun _ A S K=>(uE x).f A fun x=>(uE ix).f A fun ix=>Zq x ix fun v=>K v S⟩
  | _=>yF
 | .slice t x lo hi mx=>match aJf mx hi with
  | true=>Zv P t x lo hi mx
  | false=>yF
 | .makeSlice t l c=>RF P t l c
 | .makeMap _ none=>⟨fun _ _ S K=>Bq S K⟩
 | .makeMap t (some r)=>match BG P t with
  | some _=>⟨fun _ A S K=>(uE r).f A fun r=>Fd r S K⟩
  | none=>yF
 | .range t x=>match BG P t with
  | some _=>⟨fun _ A S K=>(uE x).f A fun x=>Nn x S K⟩
  | none=>yF
 | .next it false=>⟨fun _ A S K=>(uE it).f A fun x=>Zs x S K⟩
 | .entry it=>⟨fun _ A S K=>(uE it).f A fun x=>Np x S K⟩
 | .lookup t x ix ok=>Nx P t x ix ok
 | .mapUpdate t m k x=>Ny P t m k x
 | .insert t m k x=>Ny P t m k x
 | .extract t i=>⟨fun _ A S K=>(uE t).f A fun v=>pY i v fun v=>K v S⟩
 | .call c=>aFk P c
 | _=>yF
abbrev KSV:=VA->Hp->Prop
structure StV where
 f:VE->VA->Hp->KSV->Prop
structure ChV where
 f:VE->VA->Hp->Prop->Prop
def aJg (P:Program) (o:Oper):StV:=
 match o.dst with
 | some d=>⟨fun E A S k=>(opV P o).f E A S fun v S=>Fi A d v fun A=>k A S⟩
 | none=>⟨fun E A S k=>(opV P o).f E A S fun _ S=>k A S⟩
def doV (P:Program) (ops:Array Oper) (o:Oper):StV:=
 match o.guard with
 | none=>aJg P o
 | some (j,w)=>match ops[j]? with
  | some o'=>match o'.dst with
   | some g=>match o.dst with
    | some d=>⟨fun E A S k=>Hz A.tmps g fun b=>aC E.most (aB w b (fun k=>(opV P o).f E A S k) S fun v S=>Fi A d v fun A=>k A S)⟩
    | none=>⟨fun E A S k=>Hz A.tmps g fun b=>aC E.most (aB w b (fun k=>(opV P o).f E A S k) S fun _ S=>k A S)⟩
   | none=>⟨fun _ _ _ _=>False⟩
  | none=>⟨fun _ _ _ _=>False⟩
def opsV (P:Program) (ops:Array Oper) (l:List Oper):StV:=
 FT (β:=StV) ⟨fun _ A S k=>k A S⟩ (fun o _ ih=>⟨fun E A S k=>(doV P ops o).f E A S fun A S=>ih.f E A S k⟩) l
def OR (P:Program) (ops:Array Oper) (l:List Nat):ChV:=
 FT (β:=ChV) ⟨fun _ _ _ k=>k⟩ (fun i _ ih=>match ops[i]? with
  | some o=>match o.dst with
   | some d=>match o.guard with
    | none=>⟨fun E A S k=>Hz A.tmps d fun u=>(opV P o).f E A S fun v _=>bH v u (ih.f E A S k)⟩
    | some (j,w)=>match ops[j]? with
     | some o'=>match o'.dst with
      | some g=>⟨fun E A S k=>Hz A.tmps d fun u=>Hz A.tmps g fun b=>aC E.most (nF w b u (fun k=>(opV P o).f E A S fun v _=>bH v u k) (ih.f E A S k))⟩
      | none=>⟨fun _ _ _ _=>False⟩
     | none=>⟨fun _ _ _ _=>False⟩
   | none=>⟨fun _ _ _ _=>False⟩
  | none=>⟨fun _ _ _ _=>False⟩) l
def Ua (P:Program) (ops:Array Oper) (i:Nat) (o:Oper):OpV:=match eO P ops i with
 | none=>opV P o
 | some _=>yF
def KB (P:Program) (ops:Array Oper) (l:List Nat):StV:=
 FT (β:=StV) ⟨fun _ A S k=>k A S⟩ (fun i _ ih=>match ops[i]? with
  | some o=>match o.dst with
   | some d=>⟨fun E A S k=>(Ua P ops i o).f E A S fun v S=>Fi A d v fun A=>ih.f E A S k⟩
   | none=>⟨fun E A S k=>(Ua P ops i o).f E A S fun _ S=>ih.f E A S k⟩
  | none=>⟨fun _ _ _ _=>False⟩) l
abbrev aKy (A:VA) (o:Oper) (k:Prop):Prop:=match o.dst with
 | some d=>aCW A.tmps.t d k
 | none=>False
def Nz (P:Program) (ops:Array Oper) (l:List (Nat×List Nat)):ChV:=
 FT (β:=ChV) ⟨fun _ _ _ k=>k⟩ (fun p _ ih=>match ops[p.1]? with
  | some o=>⟨fun E A S k=>aKy A o (((KB P ops p.2).f E A S fun A S=>(Ua P ops p.1 o).f E A S fun _ _=>True)/\ih.f E A S k)⟩
  | none=>⟨fun _ _ _ _=>False⟩) l
def FU (P:Program) (ops:Array Oper) (l:List uC):StV:=
 FT (β:=StV) ⟨fun _ _ _ _=>False⟩ (fun s _ ih=>match s with
  | .take i=>match ops[i]? with
   | some o=>⟨fun E A S k=>(doV P ops o).f E A S fun A S=>ih.f E A S k⟩
   | none=>⟨fun _ _ _ _=>False⟩
  | .Ja vS lV D r yV=>match ops[r]? with
   | some o=>⟨fun E A S k=>(OR P ops vS).f E A S ((Nz P ops lV).f E A S ((KB P ops D).f E A S fun A S=>(doV P ops o).f E A S fun A S=>(OR P ops yV).f E A S (ih.f E A S k)))⟩
   | none=>⟨fun _ _ _ _=>False⟩
  | .fin vS lV D=>⟨fun E A S k=>(OR P ops vS).f E A S ((Nz P ops lV).f E A S ((KB P ops D).f E A S k))⟩) l
abbrev Ub (ops:Array Oper) (l:List Nat) (A:VA) (k:VA->Prop):Prop:=
 FT (β:=VA->Prop) k (fun i _ ih A=>match ops[i]? with
  | some o=>match o.dst with
   | some d=>match A with | ⟨⟨t,n⟩,g⟩=>aFj t d fun t=>ih ⟨⟨t,n⟩,g⟩
   | none=>False
  | none=>False) l A
def EE (P:Program) (ops:Array Oper) (l:List uC):StV:=
 FT (β:=StV) ⟨fun _ A S k=>k A S⟩ (fun s _ ih=>match s with
  | .take i=>match ops[i]? with
   | some o=>⟨fun E A S k=>(doV P ops o).f E A S fun A S=>ih.f E A S k⟩
   | none=>⟨fun _ _ _ _=>False⟩
  | .Ja vS lV D r yV=>match ops[r]? with
   | some o=>⟨fun E A S k=>(OR P ops vS).f E A S ((Nz P ops lV).f E A S ((KB P ops D).f E A S fun A S=>(doV P ops o).f E A S fun A S=>(OR P ops yV).f E A S (ih.f E A S k)))⟩
   | none=>⟨fun _ _ _ _=>False⟩
  | .fin _ _ _=>⟨fun _ _ _ _=>False⟩) l
def aBB (w:Bool) (v:V) (k:Prop):Prop:=match v with
 | .bool b=>match w,b with | true,true=>k | false,false=>k | _,_=>False
 | _=>False
def Zw (P:Program) (p:MI):Array Oper->StV:=
 MI.rec (motive:=fun _=>Array Oper->StV) (fun l ops=>FU P ops l) (fun l g t b _ ih ops=>⟨fun E A S k=>(EE P ops l).f E A S fun A S=>Hz A.tmps t fun v=>aBB b v ((ih (eK ops g b)).f E A S k)⟩) p
def Uc (P:Program) (ops:Array Oper) (draw:Bool):StV:=
 match draw with
 | true=>match TB P ops with
  | some l=>match GZ l with
   | []=>FU P ops l
   | ls=>⟨fun E A S k=>Ub ops ls A fun A=>(FU P ops l).f E A S k⟩
  | none=>match DR ops with
   | true=>match TF P (ops.size+1) ops ⟨List.replicate ops.size false⟩ []with
    | some p=>⟨fun E A S k=>Ub ops (Mo p) A fun A=>(Zw P p ops).f E A S k⟩
    | none=>⟨fun _ _ _ _=>False⟩
   | false=>⟨fun _ _ _ _=>False⟩
 | false=>opsV P ops ops.toList
abbrev CV:=uB->VA->Hp->Prop
structure CdV where
 f:VE->VA->Hp->CV->Prop
abbrev EG (l:List Nat) (A:VA) (k:List V->Prop):Prop:=
 FT (β:=(List V->Prop)->Prop) (fun k=>k []) (fun i _ ih k=>Hz A.tmps i fun v=>ih fun vs=>k (v::vs)) l k
abbrev BK (l:List Nat) (vs:List V) (nt g:Nat) (k:VA->Prop):Prop:=
 FT (β:=List V->Nv->Prop) (fun _ T=>k ⟨T,g⟩) (fun i _ ih vs T=>match vs with | v::vs=>PQ v T i fun T=>ih vs T | []=>False) l vs ⟨.leaf,nt⟩
abbrev LpV:=VE->List V->Nat->Hp->(uB->List V->Nat->Hp->Prop)->Prop
section
variable (P:Program) (tb:oN) (r:Option Nat)
abbrev Oa (a:Code) (ih:List V->Nat->Hp->Prop) (K:uB->List V->Nat->Hp->Prop):CV:=fun e A S=>match e with
 | .normal=>EG (sC tb a) A fun vs=>ih vs A.tmps.n S
 | e=>EG (TN tb a e) A fun vs=>K e vs A.tmps.n S
def FV (a:Code) (body:CdV) (E:VE) (K:uB->List V->Nat->Hp->Prop):Nat->List V->Nat->Hp->Prop:=
 aBA (β:=List V->Nat->Hp->Prop) (fun _ _ _=>False) (fun _ ih vs n S=>jC S fun S=>BK (sC tb a) vs n P.globals.size fun A=>body.f E A S (Oa tb a ih K))
def aFl (a:Code) (body:CdV):LpV:=fun E vs n S K=>FV P tb a body E K E.most vs n S
abbrev Ud (a:Code) (K:CV):uB->List V->Nat->Hp->Prop:=fun e vs n S=>BK (TN tb a e) vs n P.globals.size fun A=>K e A S
def aM4 (a:Code) (lp:LpV):CdV:=⟨fun E A S K=>EG (sC tb a) A fun vs=>lp E vs A.tmps.n S (Ud P tb a K)⟩
def Ue (l:List Nat) (b:CdV) (E:VE) (K:CV) (vs:List V) (n:Nat) (S:Hp):Prop:=ED E.most False fun _=>jC S fun S=>BK l vs n P.globals.size fun A=>b.f E A S K
abbrev UD (j:Option (List Nat)) (b:CdV) (E:VE) (K:CV):CV:=fun e A S=>match e with
 | .normal=>match j with
  | none=>b.f E A S K
  | some l=>EG l A fun vs=>Ue P l b E K vs A.tmps.n S
 | e=>K e A S
abbrev Fj (id:Nat) (K:CV):CV:=fun e A S=>match e with
 | .exit i=>aBx i id (K .normal A S) (K (.exit i) A S)
 | e=>K e A S
def Oc (a:Code):List Nat:=match pE a with | some i=>(tb.loop (1000000+i)).1 | none=>[]
def rOk (r:Option Nat) (S:Hp) (p:Prop):Prop:=match r with | none=>p | some l=>Bl l S p
def Od (f:Operand) (ps:Array Tmp) (as bo:Code):CdV:=⟨fun E A S K=>(uE f).f A fun f=>EG (Oc tb bo) A fun vs=>rOk r S (XK E f (Oc tb bo) vs A.tmps.n ps.toList as bo S fun pe S=>ZB pe (K .normal A S) (K .ret A S) fun id=>K (.exit id) A S)⟩
def kY (lp:Code->LpV):Code->CdV
 | .skip=>⟨fun _ A S K=>K .normal A S⟩
 | .region _ ops draw=>⟨fun E A S K=>(Uc P ops draw).f E A S fun A S=>K .normal A S⟩
 | .seq a b=>⟨fun E A S K=>(kY lp a).f E A S (UD P (mQ tb b) (kY lp b) E K)⟩
 | .cond c a b=>⟨fun E A S K=>(uE c).f A fun v=>pA v ((kY lp a).f E A S K) ((kY lp b).f E A S K)⟩
 | .block id a=>⟨fun E A S K=>(kY lp a).f E A S (Fj id K)⟩
 | .loop a=>aM4 P tb a (lp a)
 | .scope a=>kY lp a
 | .rangeFunc f ps as bo=>Od tb r f ps as bo
 | .exit id=>⟨fun _ A S K=>K (.exit id) A S⟩
 | .label _=>⟨fun _ A S K=>K .normal A S⟩
 | .ret=>⟨fun _ A S K=>K .ret A S⟩
 | _=>⟨fun _ _ _ _=>False⟩
def BL:Nat->Code->LpV
 | 0=>fun _ _ _ _ _ _=>False
 | n+1=>fun a=>aFl P tb a (kY P tb r (BL n) a)
end
section
variable (P:Program) (tb:FuncId->oN)
abbrev EH (rs:List ResultVar) (A:VA) (S:Hp) (k:List V->Prop):Prop:=
 FT (β:=(List V->Prop)->Prop) (fun k=>k []) (fun x _ ih k=>match x with
  | .tmp t=>Hz A.tmps t fun v=>ih fun vs=>k (v::vs)
  | .cell a t=>match sY P t,bP P t with
   | some false,_=>Hz A.tmps a fun a=>aH a S fun v _=>ih fun vs=>k (v::vs)
   | some true,some (n+1)=>Hz A.tmps a fun a=>iP (n+1) a S fun v _=>ih fun vs=>k (v::vs)
   | _,_=>False) rs k
abbrev Ia (fn:Func) (K:KV):CV:=fun e A S=>match e with
 | .exit _=>False
 | _=>EH P fn.results.toList A S fun vs=>match vs with | [v]=>bD v S K | vs=>bD (.tuple vs) S K
def pP (f:FuncId) (E:VE) (args:List V) (S:Hp) (K:KV):Prop:=
 match P.funcs[f]? with
 | some fn=>match fn.body with
  | some c=>aM2 fn.ntmps args fun ts=>(kY P (tb f) none (BL P (tb f) none rS) c).f E ⟨ts,P.globals.size⟩ S (Ia P fn K)
  | none=>False
 | none=>False
abbrev aM5 (l:Nat) (K:KV):CV:=fun e _ S=>match e with
 | .normal=>PN l .ready none true S K
 | .ret=>PN l .done (some .ret) false S K
 | .exit id=>PN l .done (some (.exit id)) false S K
abbrev aKz (n l:Nat) (bo:Code) (E:VE) (K:KV):CV:=fun e A S=>match e with
 | .normal=>Jo l S fun S=>(kY P (tb (WW n bo)) (some l) (BL P (tb (WW n bo)) (some l) rS) bo).f E A S (aM5 l K)
 | _=>False
abbrev aFm (ps:List Tmp) (args:List V) (T:Nv) (k:Nv->Prop):Prop:=
 FT (β:=List V->Nv->Prop) (fun as T=>match as with | []=>k T | _=>False) (fun p _ ih as T=>match as with | a::as=>PQ a T p fun T=>ih as T | []=>False) ps args T
def Nq (E:VE) (n:Nat) (ps:List Tmp) (as bo:Code) (l:Nat) (vs args:List V) (S:Hp) (K:KV):Prop:=
 BK (Jj tb n bo) vs n P.globals.size fun A=>aFm ps args A.tmps fun T=>(kY P (tb (WW n bo)) (some l) (BL P (tb (WW n bo)) (some l) rS) as).f E ⟨T,P.globals.size⟩ S (aKz P tb n l bo E K)
def RC (E:VE) (l:Nat) (args:List V) (S:Hp) (K:KV):Prop:=match S l with
 | some (.loop ls vs n ps as bo _ _)=>ls=Jj tb n bo/\Nq P tb E n ps as bo l vs args S K
 | _=>False
abbrev Nr:=FuncId->Option (List V->Hp->KV->Prop)
def Ns (ov:Nr) (most:Nat) (n:Nat):VE:=
 aBA (β:=VE) ⟨fun _ _ _ _=>False,fun _ _ _ _=>False,most⟩ (fun _ E=>⟨fun f args S K=>match ov f with | some g=>g args S K | none=>pP P tb f E args S K,fun l args S K=>RC P tb E l args S K,most⟩) n
variable (Tb:oN) (r:Option Nat) (E:VE)
def qF:List Dir->Nat->Code->List Nat->CV->(Nat->Code->CV->Prop)->Prop
 | [],D,c,_,K,k=>k D c K
 | .l::p,D,.seq a b,ms,K,k=>qF p D a ms (UD P (mQ Tb b) (kY P Tb r (BL P Tb r D) b) E K) k
 | .r::p,D,.seq _ b,ms,K,k=>qF p D b ms K k
 | .l::p,D,.cond _ a _,ms,K,k=>qF p D a ms K k
 | .r::p,D,.cond _ _ b,ms,K,k=>qF p D b ms K k
 | .d::p,D,.block id a,ms,K,k=>qF p D a ms (Fj id K) k
 | .d::p,D,.scope a,ms,K,k=>qF p D a ms K k
 | .d::p,D+1,.loop a,m::ms,K,k=>qF p D a ms (Oa Tb a (FV P Tb a (kY P Tb r (BL P Tb r D) a) E (Ud P Tb a K) m) (Ud P Tb a K)) k
 | _,_,_,_,_,_=>False
def EC (f:FuncId) (E:VE) (p:List Dir) (ms:List Nat) (vs:List V) (S:Hp) (K:KV):Prop:=
 match P.funcs[f]? with
 | some fn=>match fn.body with
  | some c=>qF P (tb f) none E p rS c ms (Ia P fn K) fun D c K=>match mQ (tb f) c with
   | some l=>Ue P l (kY P (tb f) none (BL P (tb f) none D) c) E K vs fn.ntmps S
   | none=>False
  | none=>False
 | none=>False
def BU (f:FuncId) (E:VE) (p:List Dir) (ms:List Nat) (vs:List V) (S:Hp) (K:KV):Prop:=
 match P.funcs[f]? with
 | some fn=>match fn.body with
  | some c=>qF P (tb f) none E p rS c ms (Ia P fn K) fun D c K=>match mQ (tb f) c with
   | some l=>jC S fun S=>BK l vs fn.ntmps P.globals.size fun A=>(kY P (tb f) none (BL P (tb f) none D) c).f E A S K
   | none=>False
  | none=>False
 | none=>False
def sL (f:FuncId) (E:VE) (p:List Dir) (m:Nat) (ms:List Nat) (vs:List V) (S:Hp) (K:KV):Prop:=
 match P.funcs[f]? with
 | some fn=>match fn.body with
  | some c=>qF P (tb f) none E p rS c ms (Ia P fn K) fun D c K=>match D,c with
   | D+1,.loop a=>FV P (tb f) a (kY P (tb f) none (BL P (tb f) none D) a) E (Ud P (tb f) a K) m vs fn.ntmps S
   | _,_=>False
  | none=>False
 | none=>False
def JC:List Dir->Code->Code
 | [],c=>c
 | .l::p,.seq a _=>JC p a
 | .r::p,.seq _ b=>JC p b
 | .l::p,.cond _ a _=>JC p a
 | .r::p,.cond _ _ b=>JC p b
 | .d::p,.block _ a=>JC p a
 | .d::p,.scope a=>JC p a
 | .d::p,.loop a=>JC p a
 | .d::p,.rangeFunc _ _ _ b=>JC p b
 | _,c=>c
def xI (f:FuncId) (p:List Dir):Code:=match P.funcs[f]? with
 | some fn=>match fn.body with
  | some c=>JC p c
  | none=> .skip
 | none=> .skip
def aHK (f:FuncId) (p:List Dir):List Tmp:=match xI P f p with | .rangeFunc _ ps _ _=>ps.toList | _=>[]
def aHL (f:FuncId) (p:List Dir):Code:=match xI P f p with | .rangeFunc _ _ as _=>as | _=> .skip
def aFn (f:FuncId) (p:List Dir):Code:=match xI P f p with | .rangeFunc _ _ _ bo=>bo | _=> .skip
end
structure yG (B:Nat->Prop) (S S':St) (B':Nat->Prop):Prop where
 n:S.n<=S'.n
 same:∀i,i<S.n->¬B i->S'.obj i=S.obj i
 sub:∀i,B' i->B i\/S.n<=i
theorem yG.trans{B B1 B2:Nat->Prop}{S S1 S2:St} (h:yG B S S1 B1) (k:yG B1 S1 S2 B2):yG B S S2 B2:=by
 refine⟨rD h.n k.n,fun i hi hb=>?_,fun i hi=>?_⟩
 ·rw [k.same i (BC hi h.n) (fun Dp=>?_),h.same i hi hb]
  rcases h.sub i Dp with h1 | h1
  ·exact hb h1
  ·omega
 ·rcases k.sub i hi with h1 | h1
  ·exact h.sub i h1
  ·exact .inr (rD h.n h1)
theorem yG.refl (B:Nat->Prop) (S:St):yG B S S B:=⟨bN _,fun _ _ _=>rfl,fun _ h=> .inl h⟩
inductive It where
 | num
 | kind
 | int
 | is
 | text
 | nums
 | list (its:List It)
def wIt:It->Nat
 | .num | .int=>8
 | .kind | .is=>1
 | .text=>16
 | .nums | .list _=>24
def Yh (l:List It):Nat:=(l.map wIt).foldr (· + ·) 0
inductive D where
 | n (z:Int)
 | b (v:Bool)
 | s (l:List UInt8)
 | l (es:List (List D))
def Wr (c:CK):Prop:=c= .rs\/c= .exact\/∃l,c= .grown l
inductive Rd (S:St) (C:Nat->Prop):It->Value->D->Prop where
 | num {z:Nat} (h:z<18446744073709551616):Rd S C .num (.int .u64 (.ofNat z)) (.n z)
 | kind {z:Nat} (h:z<256):Rd S C .kind (.int .u8 (.ofNat z)) (.n z)
 | int {z:Int} (h1: -9223372036854775808<=z) (h2:z<9223372036854775808):Rd S C .int (.int .i64 z) (.n z)
 | is {v:Bool}:Rd S C .is (.bool v) (.b v)
 | text {l:List UInt8} (h:l.length<=140737488355328):Rd S C .text (.string ⟨⟨l⟩⟩) (.s l)
 | nums {v:Value} {es:List (List D)} (h:Rd S C (.list [.num]) v (.l es)):Rd S C .nums v (.l es)
 | empty {its:List It}:Rd S C (.list its) (.slice none 0 0) (.l [])
 | Mm {its:List It} {b o s:Nat}:Rd S C (.list its) (.slice (some ⟨b,o,some (s+2)⟩) 0 0) (.l [])
 | row {its:List It} {b o n c:Nat} {sp:Option Nat} {vs:List Value} {e:TypeId} {ck:CK} {es:List (List D)} (AA:Cr sp=true) (hb:b<S.n) (hC:¬C b) (ho:S.obj b=some (.cells vs e ck)) (hw:Wr ck)
  (hn:es.length=n) (hl:o+n*its.length<=vs.length) (hd:∀ds∈es,ds.length=its.length) (hN:n<=140737488355328/\n*Yh its<=140737488355328) (Xn:n<=c)
  (hr:∀(k:Nat) (ds:List D) (j:Nat) (it:It) (v:Value) (d:D),es[k]? =some ds->its[j]? =some it->vs[o+k*its.length+j]? =some v->ds[j]? =some d->Rd S C it v d):Rd S C (.list its) (.slice (some ⟨b,o,sp⟩) n c) (.l es)
theorem Rd.fr{S S':St}{C C':Nat->Prop} (f:yG C S S' C'){it:It}{v:Value}{d:D} (h:Rd S C it v d):Rd S' C' it v d:=by
 induction h with
 | num h=>exact .num h
 | kind h=>exact .kind h
 | int h1 h2=>exact .int h1 h2
 | is=>exact .is
 | text h=>exact .text h
 | nums _ ih=>exact .nums ih
 | empty=>exact .empty
 | Mm=>exact .Mm
 | row AA hb hC ho hw hn hl hd hN Xn _ ih=>
  refine .row AA (BC hb f.n) (fun h=>?_) (by rw [f.same _ hb hC];exact ho) hw hn hl hd hN Xn ih;rcases f.sub _ h with h | h
  ·exact hC h
  ·omega
theorem Rd.aEf{S:St}{C:Nat->Prop}{v:Value}{d:D} (h:Rd S C .kind v d):∃z:Nat,v= .int .u8 (.ofNat z)/\d= .n z/\z<256:=by
 cases h with | kind h=>exact⟨_,rfl,rfl,h⟩
theorem Rd.FM{S:St}{C:Nat->Prop}{v:Value}{d:D} (h:Rd S C .int v d):∃z:Int,v= .int .i64 z/\d= .n z/\ -9223372036854775808<=z/\z<9223372036854775808:=by
 cases h with | int h1 h2=>exact⟨_,rfl,rfl,h1,h2⟩
structure IX (S S':St):Prop where
 n:S.n<=S'.n
 same:∀i,i<S.n->S'.obj i=S.obj i
theorem IX.fr{S S':St} (h:IX S S') (B:Nat->Prop):yG B S S' B:=⟨h.n,fun i hi _=>h.same i hi,fun _ hi=> .inl hi⟩
theorem IX.refl (S:St):IX S S:=⟨bN _,fun _ _=>rfl⟩
structure RdA (S:St) (C:Nat->Prop) (its:List It) (cs:List Value) (ds:List D):Prop where
 len:cs.length=its.length
 Ml:ds.length=its.length
 rd:∀(j:Nat) (it:It) (v:Value) (d:D),its[j]? =some it->cs[j]? =some v->ds[j]? =some d->Rd S C it v d
theorem RdA.fr{S S':St}{C C':Nat->Prop}{its:List It}{cs:List Value}{ds:List D} (h:RdA S C its cs ds) (f:yG C S S' C'):RdA S' C' its cs ds:=⟨h.len,h.Ml,fun j it v d a b c=>(h.rd j it v d a b c).fr f⟩
theorem IX.trans{a b c:St} (h:IX a b) (k:IX b c):IX a c:=⟨rD h.n k.n,fun i hi=>by rw [k.same i (BC hi h.n),h.same i hi]⟩
theorem IX.new (S:St) (o:gV):IX S (S.new o):=⟨VY _,fun _i hi=>gE (Nat.ne_of_lt hi)⟩
structure Cx where
 Z:Nat->Option Nat
 G:Nat->Nat->Option Value
 Yz:Nat->Option Value
 n0:Nat
structure Cx.le0 (c d:Cx):Prop where
 Z:∀i b,c.Z i=some b->d.Z i=some b
 G:∀i n v,c.G i n=some v->d.G i n=some v
 Yz:∀k v,c.Yz k=some v->d.Yz k=some v
structure Cx.le (c d:Cx):Prop where
 Z:∀i b,c.Z i=some b->d.Z i=some b
 G:∀i n v,c.G i n=some v->d.G i n=some v
 Yz:∀k v,c.Yz k=some v->d.Yz k=some v
 n0:d.n0=c.n0
theorem Cx.le.refl (c:Cx):c.le c:=⟨fun _ _ h=>h,fun _ _ _ h=>h,fun _ _ h=>h,rfl⟩
theorem Cx.le.trans{a b c:Cx} (h:a.le b) (k:b.le c):a.le c:=⟨fun i b e=>k.Z i b (h.Z i b e),fun i n v e=>k.G i n v (h.G i n v e),fun i v e=>k.Yz i v (h.Yz i v e),k.n0.trans h.n0⟩
theorem Cx.le.to0{a b:Cx} (h:a.le b):a.le0 b:=⟨h.Z,h.G,h.Yz⟩
structure Fc (C:Nat->Prop) (S S':St) (C':Nat->Prop):Prop where
 n:S.n<=S'.n
 same:∀b,b<S.n->¬C b->∀vs e ck,S.obj b=some (.cells vs e ck)->S'.obj b=some (.cells vs e ck)
 sub:∀b,C' b->C b\/S.n<=b
theorem Fc.of{C C':Nat->Prop}{S S':St} (f:yG C S S' C'):Fc C S S' C':=⟨f.n,fun b h1 h2 _ _ _ e=>by rw [f.same b h1 h2];exact e,f.sub⟩
inductive RY (S:St) (C:Nat->Prop):Dt->Value->Prop
 | int {k:IntKind} {z:Int}:RY S C (.int k z) (.int k z)
 | bool {b:Bool}:RY S C (.bool b) (.bool b)
 | str {l:List UInt8}:RY S C (.str l) (.string ⟨⟨l⟩⟩)
 | nil:RY S C (.list [] 0) (.slice none 0 0)
 | emp {b o s:Nat}:RY S C (.list [] 0) (.slice (some ⟨b,o,some (s+2)⟩) 0 0)
 | row {b o n c:Nat} {sp:Option Nat} {vs:List Value} {e:TypeId} {ck:CK} {cs:List Dt} (AA:Cr sp=true) (hb:b<S.n) (hC:¬C b) (ho:S.obj b=some (.cells vs e ck)) (hl:o+cs.length<=vs.length) (hn:n<=c)
  (hr:∀(j:Nat) (d:Dt) (v:Value),cs[j]? =some d->vs[o+j]? =some v->RY S C d v):RY S C (.list cs n) (.slice (some ⟨b,o,sp⟩) n c)
inductive JD (c:Cx) (S:St) (C:Nat->Prop):Tag->Value->Prop
 | root {k:Nat} {w:Value} (h:c.Yz k=some w):JD c S C (.root k) w
 | sub {O:Tag} {b o n cc k:Nat} {sp:Option Nat} {vs:List Value} {e:TypeId} {ck:CK} {w:Value} (h:JD c S C O (.slice (some ⟨b,o,sp⟩) n cc)) (hb:b<S.n) (hC:¬C b) (ho:S.obj b=some (.cells vs e ck)) (hv:vs[o+k]? =some w):JD c S C (.sub O k) w
 | cut {O:Tag} {b o n cc d k q:Nat} {sp:Option Nat} (h:JD c S C O (.slice (some ⟨b,o,sp⟩) n cc)):JD c S C (.cut O d k q) (.slice (some ⟨b,o+d,none⟩) k q)
inductive fC (c:Cx) (S:St) (C:Nat->Prop):V->Value->Prop
 | int {k:IntKind} {z:Int}:fC c S C (.int k z) (.int k z)
 | bool {b:Bool}:fC c S C (.bool b) (.bool b)
 | str {l:List UInt8}:fC c S C (.str l) (.string ⟨⟨l⟩⟩)
 | list {O:Tag} {cs:List Dt} {n:Nat} {w:Value} (ht:JD c S C O w) (hd:RY S C (.list cs n) w):fC c S C (.list O cs n) w
 | sS {O:Tag} {cs:List Dt} {b o n cc k:Nat} {sp:Option Nat} (ht:JD c S C O (.slice (some ⟨b,o,sp⟩) n cc)) (hd:RY S C (.list cs n) (.slice (some ⟨b,o,sp⟩) n cc)):fC c S C (.sS O cs k) (.pointer (some ⟨b,o+k,none⟩))
 | nil:fC c S C .nil (.slice none 0 0)
 | acc {i n:Nat} {w:Value} (h:c.G i n=some w):fC c S C (.acc i n) w
 | pO {i n o k cc b:Nat} (h:c.G i n=some (.slice (some ⟨b,0,some 0⟩) n n)):fC c S C (.pO i n o k cc) (.slice (some ⟨b,o,some 0⟩) k cc)
 | aFo {i n b:Nat} (h:c.G i n=some (.slice (some ⟨b,0,some 0⟩) n n)):fC c S C (.emp i n) (.slice (some ⟨b,0,some 1⟩) 0 0)
 | nZ {i n o b:Nat} (h:c.G i n=some (.slice (some ⟨b,0,some 0⟩) n n)):fC c S C (.nZ i n o) (.pointer (some ⟨b,o,none⟩))
 | own {i o n m b:Nat} (h:c.Z i=some b):fC c S C (.own i o n m) (.slice (some ⟨b,o,none⟩) n m)
 | ptr {i o b:Nat} (h:c.Z i=some b):fC c S C (.ptr i o) (.pointer (some ⟨b,o,none⟩))
 | sD:fC c S C .sD (.pointer none)
 | Hw:fC c S C .Hw .nilIface
 | tM {i b:Nat} (h:c.Z i=some b):fC c S C (.tM i) (.map (some b))
 | Hx:fC c S C .Hx (.map none)
 | MP:fC c S C .MP .nilFunc
 | yield {l b:Nat} (h:c.Z l=some b):fC c S C (.yield l) (.func (.yield b) ⟨[]⟩ ⟨[]⟩)
 | func {f:FuncId} {a d:List V} {a' d':List Value} (la:a.length=a'.length) (ld:d.length=d'.length) (ha:∀(k:Nat) (v:V) (w:Value),a[k]? =some v->a'[k]? =some w->fC c S C v w) (hd:∀(k:Nat) (v:V) (w:Value),d[k]? =some v->d'[k]? =some w->fC c S C v w):fC c S C (.func f a d) (.func (.func f) ⟨a'⟩ ⟨d'⟩)
 | DO {s:String} {v:V} {w:Value} (h:fC c S C v w):fC c S C (.DO s v) (.func (.method s) ⟨[w]⟩ ⟨[]⟩)
 | iface {t:TypeId} {v:V} {w:Value} (h:fC c S C v w):fC c S C (.iface t v) (.iface t w)
 | agg {a:List V} {a':List Value} (la:a.length=a'.length) (ha:∀(k:Nat) (v:V) (w:Value),a[k]? =some v->a'[k]? =some w->fC c S C v w):fC c S C (.agg a) (.agg ⟨a'⟩)
 | tuple {a:List V} {a':List Value} (la:a.length=a'.length) (ha:∀(k:Nat) (v:V) (w:Value),a[k]? =some v->a'[k]? =some w->fC c S C v w):fC c S C (.tuple a) (.tuple ⟨a'⟩)
structure kE (c:Cx) (S:St) (C:Nat->Prop) (a:List V) (a':List Value):Prop where
 len:a.length=a'.length
 rd:∀(k:Nat) (v:V) (w:Value),a[k]? =some v->a'[k]? =some w->fC c S C v w
section
variable{S S':St}{C C':Nat->Prop}{c d:Cx}
theorem RY.qH (f:Fc C S S' C'){x:Dt}{v:Value} (h:RY S C x v):RY S' C' x v:=by
 induction h with
 | int=>exact .int
 | bool=>exact .bool
 | str=>exact .str
 | nil=>exact .nil
 | emp=>exact .emp
 | row AA hb hC ho hl hn _ ih=>
  refine .row AA (BC hb f.n) (fun h=>?_) (f.same _ hb hC _ _ _ ho) hl hn ih;rcases f.sub _ h with h | h
  ·exact hC h
  ·omega
theorem JD.qH (l:c.le0 d) (f:Fc C S S' C'){O:Tag}{v:Value} (h:JD c S C O v):JD d S' C' O v:=by
 induction h with
 | root h=>exact .root (l.Yz _ _ h)
 | cut _ ih=>exact .cut ih
 | sub _ hb hC ho hv ih=>
  refine .sub ih (BC hb f.n) (fun h=>?_) (f.same _ hb hC _ _ _ ho) hv;rcases f.sub _ h with h | h
  ·exact hC h
  ·omega
theorem fC.qH (l:c.le0 d) (f:Fc C S S' C'){x:V}{v:Value} (h:fC c S C x v):fC d S' C' x v:=by
 induction h with
 | int=>exact .int
 | bool=>exact .bool
 | str=>exact .str
 | list ht hd=>exact .list (ht.qH l f) (hd.qH f)
 | sS ht hd=>exact .sS (ht.qH l f) (hd.qH f)
 | nil=>exact .nil
 | acc h=>exact .acc (l.G _ _ _ h)
 | nZ h=>exact .nZ (l.G _ _ _ h)
 | pO h=>exact .pO (l.G _ _ _ h)
 | aFo h=>exact .aFo (l.G _ _ _ h)
 | own h=>exact .own (l.Z _ _ h)
 | ptr h=>exact .ptr (l.Z _ _ h)
 | sD=>exact .sD
 | Hw=>exact .Hw
 | tM h=>exact .tM (l.Z _ _ h)
 | Hx=>exact .Hx
 | MP=>exact .MP
 | yield h=>exact .yield (l.Z _ _ h)
 | func la ld _ _ i1 i2=>exact .func la ld i1 i2
 | DO _ ih=>exact .DO ih
 | iface _ ih=>exact .iface ih
 | agg la _ ih=>exact .agg la ih
 | tuple la _ ih=>exact .tuple la ih
theorem RY.mono (f:yG C S S' C'){x:Dt}{v:Value} (h:RY S C x v):RY S' C' x v:=h.qH (.of f)
theorem fC.mono (l:c.le d) (f:yG C S S' C'){x:V}{v:Value} (h:fC c S C x v):fC d S' C' x v:=h.qH l.to0 (.of f)
theorem kE.qH (l:c.le0 d) (f:Fc C S S' C'){x:List V}{v:List Value} (h:kE c S C x v):kE d S' C' x v:=⟨h.len,fun k a b p q=>(h.rd k a b p q).qH l f⟩
theorem kE.mono (l:c.le d) (f:yG C S S' C'){x:List V}{v:List Value} (h:kE c S C x v):kE d S' C' x v:=⟨h.len,fun k a b p q=>(h.rd k a b p q).mono l f⟩
theorem JD.fn{O:Tag}{v:Value} (h:JD c S C O v):∀{w:Value},JD c S C O w->v=w:=by
 induction h with
 | root h=>
  intro w k;cases k with | root k=>rw [h]at k;injection k
 | cut _ ih=>
  intro w k;cases k with
  | cut h2=>
   have:=ih h2;injection this with e1 e2 e3;injection e1 with e1;injection e1 with e4 e5 e6;subst e4 e5;rfl
 | sub _ hb hC ho hv ih=>
  intro w k;cases k with
  | sub h2 OO hC2 uK Lu=>
   have:=ih h2;injection this with e1 e2 e3;injection e1 with e1;injection e1 with e4 e5 e6;subst e4 e5;rw [ho]at uK;injection uK with uK;injection uK with uK;subst uK;rw [hv]at Lu;injection Lu
theorem OA{a:List V}{x y:List Value} (hx:a.length=x.length) (hy:a.length=y.length) (h:∀(k:Nat) (v:V) (w:Value),a[k]? =some v->x[k]? =some w->∀{u:Value},fC c S C v u->w=u) (k:∀(k:Nat) (v:V) (w:Value),a[k]? =some v->y[k]? =some w->fC c S C v w):x=y:=by
 refine List.ext_getElem (by omega) fun i a1 a2=>?_;exact h i _ _ (aS (by omega)) (aS a1) (k i _ _ (aS (by omega)) (aS a2))
theorem fC.fn{x:V}{v:Value} (h:fC c S C x v):∀{w:Value},fC c S C x w->v=w:=by
 induction h with
 | int=>intro w k;cases k;rfl
 | bool=>intro w k;cases k;rfl
 | str=>intro w k;cases k;rfl
 | list ht _=>intro w k;cases k with | list ht2 _=>exact ht.fn ht2
 | sS ht _=>
  intro w k;cases k with
  | sS ht2 _=>
   have:=ht.fn ht2;injection this with e1 e2 e3;injection e1 with e1;injection e1 with e4 e5 e6;subst e4 e5;rfl
 | nil=>intro w k;cases k;rfl
 | acc h=>intro w k;cases k with | acc k=>rw [h]at k;injection k
 | pO h=>
  intro w k;cases k with
  | pO k=>
   rw [h]at k;injection k with k;injection k with e1 e2 e3;injection e1 with e1;injection e1 with e4 e5 e6;subst e4;rfl
 | aFo h=>
  intro w k;cases k with
  | aFo k=>
   rw [h]at k;injection k with k;injection k with e1 e2 e3;injection e1 with e1;injection e1 with e4 e5 e6;subst e4;rfl
 | nZ h=>
  intro w k;cases k with
  | nZ k=>
   rw [h]at k;injection k with k;injection k with e1 e2 e3;injection e1 with e1;injection e1 with e4 e5 e6;subst e4;rfl
 | own h=>intro w k;cases k with | own k=>rw [h]at k;injection k with k;subst k;rfl
 | ptr h=>intro w k;cases k with | ptr k=>rw [h]at k;injection k with k;subst k;rfl
 | sD=>intro w k;cases k;rfl
 | Hw=>intro w k;cases k;rfl
 | Hx=>intro w k;cases k;rfl
 | tM h=>intro w k;cases k with | tM k=>rw [h]at k;injection k with k;subst k;rfl
 | MP=>intro w k;cases k;rfl
 | yield h=>intro w k;cases k with | yield k=>rw [h]at k;injection k with k;subst k;rfl
 | func la ld _ _ i1 i2=>
  intro w k;cases k with
  | func la2 ld2 k1 k2=>rw [OA la la2 (fun k v w p q u=>i1 k v w p q) k1,OA ld ld2 (fun k v w p q u=>i2 k v w p q) k2]
 | DO _ ih=>intro w k;cases k with | DO k=>rw [ih k]
 | iface _ ih=>intro w k;cases k with | iface k=>rw [ih k]
 | agg la _ ih=>intro w k;cases k with | agg la2 k=>rw [OA la la2 (fun k v w p q u=>ih k v w p q) k]
 | tuple la _ ih=>intro w k;cases k with | tuple la2 k=>rw [OA la la2 (fun k v w p q u=>ih k v w p q) k]
theorem kE.nil:kE c S C [] []:=⟨rfl,fun k v w a=>by simp at a⟩
theorem kE.cons{v:V}{w:Value}{l:List V}{m:List Value} (h:fC c S C v w) (k:kE c S C l m):kE c S C (v::l) (w::m):=by
 refine⟨by simp [k.len],fun j x y a b=>?_⟩;cases j with
 | zero=>simp at a b;subst a b;exact h
 | succ j=>simp at a b;exact k.rd j x y a b
theorem kE.mL{m:List Value} (h:kE c S C [] m):m=[]:=lZ (by simpa using h.len.symm)
theorem kE.cons_inv{v:V}{l:List V}{m:List Value} (h:kE c S C (v::l) m):∃w m',m=w::m'/\fC c S C v w/\kE c S C l m':=by
 cases m with
 | nil=>have:=h.len;simp at this
 | cons w m=>exact⟨w,m,rfl,h.rd 0 v w rfl rfl,by simpa using h.len,fun k x y a b=>h.rd (k+1) x y (by simpa using a) (by simpa using b)⟩
theorem kE.app{l l2:List V}{m m2:List Value} (h:kE c S C l m) (k:kE c S C l2 m2):kE c S C (l++l2) (m++m2):=by
 refine⟨by simp [h.len,k.len],fun j x y a b=>?_⟩;have hl:=h.len;by_cases hj:j<l.length
 ·rw [fQ hj]at a
  rw [fQ (by omega)]at b;exact h.rd j x y a b
 ·rw [iO (by omega)]at a b
  exact k.rd _ x y a (by rw [hl];exact b)
theorem kE.take{l:List V}{m:List Value} (h:kE c S C l m) (n:Nat):kE c S C (l.take n) (m.take n):=by
 refine⟨by simp [h.len],fun j x y a b=>?_⟩;rw [kZ]at a b;split at a
 ·rename_i hj;rw [if_pos hj]at b;exact h.rd j x y a b
 ·cases a
theorem kE.drop{l:List V}{m:List Value} (h:kE c S C l m) (n:Nat):kE c S C (l.drop n) (m.drop n):=by
 refine⟨by simp [h.len],fun j x y a b=>?_⟩;rw [kI]at a b;exact h.rd _ x y a b
theorem kE.aG{l n:List V}{m n':List Value} (h:kE c S C l m) (k:kE c S C n n') (o:Nat):kE c S C (Am.aG o n l) (Am.aG o n' m):=by
 unfold Am.aG;rw [<-k.len];exact((h.take o).app k).app (h.drop _)
theorem kE.get{l:List V}{m:List Value} (h:kE c S C l m){k:Nat}{v:V} (hv:l[k]? =some v):∃w,m[k]? =some w/\fC c S C v w:=by
 have hk:k<m.length:=by rw [<-h.len];exact(cZ.1 hv).1
 exact⟨m[k],aS hk,h.rd k v _ hv (aS hk)⟩
theorem kE.flatten{l:List V}{m:List Value} (h:kE c S C l m) (n:Nat):kE c S C (List.replicate n l).flatten (List.replicate n m).flatten:=by
 induction n with
 | zero=>exact .nil
 | succ n ih=>simp only [Kt,VP];exact h.app ih
theorem Uf{v:Value}{x:V} (h:ofV v=some x):bA v=true:=by
 unfold ofV at h;split at h<;>first | rfl | cases h
theorem aFp{v:Value}{x:V} (h:ofV v=some x):fC c S C x v:=by
 unfold ofV at h;split at h<;>first | (injection h with h;subst h;first | exact .int | exact .bool | exact .str | exact .sD | exact .nil | exact .Hw | exact .MP | exact .Hx) | cases h
theorem OB:∀{z:List Value} {l:List V},IZ z=some l->kE c S C l z:=by
 intro z;induction z with
 | nil=>intro l h;simp [IZ]at h;subst h;exact .nil
 | cons v z ih=>
  intro l h;unfold IZ at h;split at h
  ·rename_i x hx
   split at h
   ·rename_i xs hxs
    injection h with h;subst h;exact .cons (aFp hx) (ih hxs)
   ·cases h
  ·cases h
end
theorem aKA{c:Cx}{S:St}{C:Nat->Prop}{O:Tag}{d:Dt}{w:Value} (h:RY S C d w) (ht:JD c S C O w):fC c S C (T O d) w:=by
 cases h with
 | int=>exact .int
 | bool=>exact .bool
 | str=>exact .str
 | nil=>exact .list ht .nil
 | emp=>exact .list ht .emp
 | row a b e f g i j=>exact .list ht (.row a b e f g i j)
def EI (es:List MapEntry) (ck:Nat):Prop:=(es.map (·.born)).Pairwise (· < ·)/\∀e∈es,e.born<ck
theorem EI.app{es:List MapEntry}{ck:Nat} (b:EI es ck){e:MapEntry} (he:e.born=ck):EI (es++[e]) (ck+1):=by
 refine⟨?_,fun x hx=>?_⟩
 ·rw [List.map_append,List.pairwise_append]
  refine⟨b.1,by simp,fun x hx y hy=>?_⟩;obtain⟨z,hz,rfl⟩:=mA.1 hx;simp at hy;subst hy;rw [he];exact b.2 z hz
 ·rcases oR.1 hx with hx | hx
  ·have:=b.2 x hx;omega
  ·simp at hx;subst hx;omega
theorem EI.set{es:List MapEntry}{ck:Nat} (b:EI es ck){j:Nat}{e e2:MapEntry} (hj:es[j]? =some e) (he:e2.born=e.born):EI (es.set j e2) ck:=by
 have hm:(es.set j e2).map (·.born)=es.map (·.born):=by
  apply uH;intro k;rw [lA,lA,Ck];split
  ·rename_i h;subst h
   have hlt:=(cZ.1 hj).1;rw [if_pos hlt,hj];simp [he]
  ·rfl
 refine⟨by rw [hm];exact b.1,fun x hx=>?_⟩;obtain⟨k,hk⟩:=IF hx;have h1:((es.set j e2).map (·.born))[k]? =some x.born:=by rw [lA,hk];rfl
 rw [hm,lA]at h1;cases hq:es[k]? with
 | none=>rw [hq]at h1;cases h1
 | some y=>
  rw [hq]at h1;simp at h1;rw [<-h1];exact b.2 y (rB hq)
def ObR (c:Cx) (S:St) (C:Nat->Prop) (o:Ob) (a:gV):Prop:=match o with
 | .row vs t=>∃ws,a= .cells ws t .exact/\kE c S C vs ws
 | .jK _ _ _=>False
 | .map es=>∃iD clock,a= .map iD clock/\EI iD clock/\es.length=iD.length/\∀(k:Nat) (x:V×V) (y:MapEntry),es[k]? =some x->iD[k]? =some y->fC c S C x.1 y.key/\fC c S C x.2 y.val
 | .TW es bs ck=>∃iD,a= .map iD ck/\iD.map (·.born)=bs/\EI iD ck/\es.length=iD.length/\∀(k:Nat) (x:V×V) (y:MapEntry),es[k]? =some x->iD[k]? =some y->fC c S C x.1 y.key/\fC c S C x.2 y.val
 | .iter m since seen last=>∃r,a= .iter (some r) since seen last/\c.Z m=some r
 | .loop ls vs n ps as bo st pe=>∃T,a= .loop T ps as bo st pe/\n=T.n/\vs.length=ls.length/\∀(j i:Nat) (v:V),ls[j]? =some i->vs[j]? =some v->∃w,T.t.get i=some w/\fC c S C v w
theorem ObR.qH{c d:Cx}{S S':St}{C C':Nat->Prop} (l:c.le0 d) (f:Fc C S S' C'){o:Ob}{a:gV} (h:ObR c S C o a):ObR d S' C' o a:=by
 cases o with
 | row vs t=>obtain⟨ws,e,r⟩:=h;exact⟨ws,e,r.qH l f⟩
 | jK=>exact h
 | map es=>
  obtain⟨iD,k,e,hb,hl,r⟩:=h;exact⟨iD,k,e,hb,hl,fun i x y p q=>⟨(r i x y p q).1.qH l f,(r i x y p q).2.qH l f⟩⟩
 | TW es bs ck=>
  obtain⟨iD,e,hbs,hb,hl,r⟩:=h;exact⟨iD,e,hbs,hb,hl,fun i x y p q=>⟨(r i x y p q).1.qH l f,(r i x y p q).2.qH l f⟩⟩
 | iter m since seen last=>
  obtain⟨r,e,q⟩:=h;exact⟨r,e,l.Z _ _ q⟩
 | loop ls vs n ps as bo st pe=>
  obtain⟨T,e,hn,q,r⟩:=h;exact⟨T,e,hn,q,fun j i v p p2=>let⟨w,a,b⟩:=r j i v p p2;⟨w,a,b.qH l f⟩⟩
theorem ObR.mono{c d:Cx}{S S':St}{C C':Nat->Prop} (l:c.le d) (f:yG C S S' C'){o:Ob}{a:gV} (h:ObR c S C o a):ObR d S' C' o a:=h.qH l.to0 (.of f)
def qI (c:Cx) (h:Hp) (i b:Nat):Prop:=(∃o,h i=some o/\PM o=false/\c.Z i=some b)\/∃vs t n m,h i=some (.jK vs t n)/\c.G i m=some (.slice (some ⟨b,0,some 0⟩) m m)
section
variable (P:Program) (B:Nat->Prop) (Sb:St)
def cY (c:Cx) (h:Hp):Nat->Prop:=fun b=>B b\/∃i,qI c h i b
structure VS (c:Cx) (h:Hp) (S:St):Prop where
 base:IX Sb S
 bB:∀b,B b->b<Sb.n
 ob:∀i o,h i=some o->PM o=false->∃b a,c.Z i=some b/\Sb.n<=b/\b<S.n/\S.obj b=some a/\ObR c S (cY B c h) o a
 jK:∀i vs t n,h i=some (.jK vs t n)->∃b ws olds sz,c.G i n=some (.slice (some ⟨b,0,some 0⟩) n n)/\Sb.n<=b/\b<S.n/\S.obj b=some (.cells ws t (.grown olds))/\kE c S (cY B c h) vs ws/\bP P t=some sz/\vs.length=n*sz/\∀m,n<m->c.G i m=none
 inj:∀i j b,qI c h i b->qI c h j b->i=j
 Gs:∀i n w,c.G i n=some w->∃b,w= .slice (some ⟨b,0,some 0⟩) n n
 room:∃N,∀i,N<=i->h i=none/\c.Z i=none/\∀n,c.G i n=none
 MY:∃M,∀k,M<=k->c.Yz k=none
 Gb:∀i vs t n m b,h i=some (.jK vs t n)->c.G i m=some (.slice (some ⟨b,0,some 0⟩) m m)->Sb.n<=b/\b<S.n
 old:∀i vs t n b ws e olds,h i=some (.jK vs t n)->c.G i n=some (.slice (some ⟨b,0,some 0⟩) n n)->S.obj b=some (.cells ws e (.grown olds))->∀x∈olds,∃m,c.G i m=some (.slice (some ⟨x,0,some 0⟩) m m)
end
section
variable{P:Program}{B:Nat->Prop}{Sb:St}{c d:Cx}{h h':Hp}{S S':St}
theorem VS.row (s:VS P B Sb c h S) (i:Nat) (vs:List V) (t:TypeId) (e:h i=some (.row vs t)):∃b ws,c.Z i=some b/\Sb.n<=b/\b<S.n/\S.obj b=some (.cells ws t .exact)/\kE c S (cY B c h) vs ws:=by
 obtain⟨b,a,a1,a2,a3,a4,ws,rfl,a5⟩:=s.ob i _ e rfl;exact⟨b,ws,a1,a2,a3,a4,a5⟩
theorem VS.bd (s:VS P B Sb c h S){i b:Nat} (l:qI c h i b):Sb.n<=b/\b<S.n:=by
 rcases l with ⟨o,e1,eg,e2⟩ | ⟨vs,t,n,m,e1,e2⟩
 ·obtain⟨b',ws,a1,a2,a3,_⟩:=s.ob i o e1 eg
  rw [e2]at a1;injection a1 with a1;subst a1;exact⟨a2,a3⟩
 ·exact s.Gb i vs t n m b e1 e2
theorem VS.fresh (s:VS P B Sb c h S):∃i,h i=none/\c.Z i=none/\∀n,c.G i n=none:=by
 obtain⟨N,hN⟩:=s.room;exact⟨N,hN N (bN _)⟩
theorem VS.aCY (s:VS P B Sb c h S){b:Nat} (l:cY B c h b):b<S.n:=by
 rcases l with l | ⟨i,l⟩
 ·exact BC (s.bB b l) s.base.n
 ·exact(s.bd l).2
def Cx.putZ (c:Cx) (i b:Nat):Cx:=⟨fun j=>if j=i then some b else c.Z j,c.G,c.Yz,c.n0⟩
def Cx.putG (c:Cx) (i n:Nat) (w:Value):Cx:=⟨c.Z,fun j m=>if j=i/\m=n then some w else c.G j m,c.Yz,c.n0⟩
theorem Cx.putZ_le{i b:Nat} (hi:c.Z i=none):c.le (c.putZ i b):=by
 refine⟨fun j x e=>?_,fun _ _ _ e=>e,fun _ _ e=>e,rfl⟩;show(if j=i then some b else c.Z j)=some x;rw [if_neg (fun e2=>by subst e2;rw [hi]at e;cases e)];exact e
theorem Cx.putG_le{i n:Nat}{w:Value} (hi:c.G i n=none):c.le (c.putG i n w):=by
 refine⟨fun _ _ e=>e,fun j m x e=>?_,fun _ _ e=>e,rfl⟩;show(if j=i/\m=n then some w else c.G j m)=some x;rw [if_neg (fun e2=>by obtain⟨rfl,rfl⟩:=e2;rw [hi]at e;cases e)];exact e
theorem aD{i:Nat}{o:Ob}:aR h i o i=some o:=if_pos rfl
theorem aF{i j:Nat}{o:Ob} (e:j≠i):aR h i o j=h j:=if_neg e
theorem VS.aBC (s:VS P B Sb c h S){i:Nat} (_h0:h i=none) (h1:c.Z i=none) (_h2:∀n,c.G i n=none){o:Ob}{ao:gV} (hg:PM o=false) (ho:∀d S' C',c.le d->yG (cY B c h) S S' C'->ObR d S' C' o ao):
 VS P B Sb (c.putZ i S.n) (aR h i o) (S.new ao)/\c.le (c.putZ i S.n)/\yG (cY B c h) S (S.new ao) (cY B (c.putZ i S.n) (aR h i o))/\(c.putZ i S.n).Z i=some S.n:=by
 have le:=Cx.putZ_le (c:=c) (i:=i) (b:=S.n) h1
 have OS:∀j b,qI (c.putZ i S.n) (aR h i o) j b->(j=i/\b=S.n)\/(j≠i/\qI c h j b):=by
  intro j b l;by_cases e:j=i
  ·subst e
   rcases l with ⟨o',_,_,e2⟩ | ⟨vs',t',n,m,e1,e2⟩
   ·have:(if j=j then some S.n else c.Z j)=some b:=e2
    rw [if_pos rfl]at this;injection this with this;exact .inl ⟨rfl,this.symm⟩
   ·rw [aD]at e1;injection e1 with e1;subst e1;cases hg
  ·refine .inr ⟨e,?_⟩
   rcases l with ⟨o',e1,eg,e2⟩ | ⟨vs',t',n,m,e1,e2⟩
   ·rw [aF e]at e1
    have e2:(if j=i then some S.n else c.Z j)=some b:=e2;rw [if_neg e]at e2;exact .inl ⟨o',e1,eg,e2⟩
   ·rw [aF e]at e1
    exact .inr ⟨vs',t',n,m,e1,e2⟩
 have fr:yG (cY B c h) S (S.new ao) (cY B (c.putZ i S.n) (aR h i o)):=by
  refine⟨VY _,fun j hj _=>gE (Nat.ne_of_lt hj),fun b l=>?_⟩;rcases l with l | ⟨j,l⟩
  ·exact .inl (.inl l)
  ·rcases OS j b l with ⟨_,e⟩ | ⟨_,l⟩
   ·exact .inr (Cm e.symm)
   ·exact .inl (.inr ⟨j,l⟩)
 refine⟨⟨s.base.trans (.new S _),s.bB,?_,?_,?_,s.Gs,?_,s.MY,?_,?_⟩,le,fr,if_pos rfl⟩
 ·intro j o' e eg
  by_cases e2:j=i
  ·subst e2
   rw [aD]at e;injection e with e;subst e;exact⟨S.n,ao,if_pos rfl,s.base.n,vI _,rJ,ho _ _ _ le fr⟩
  ·rw [aF e2]at e
   obtain⟨b,a',a1,a2,a3,a4,a5⟩:=s.ob j o' e eg;exact⟨b,a',le.Z _ _ a1,a2,nT a3,by rw [gE (by omega)];exact a4,a5.mono le fr⟩
 ·intro j vs' t' n e
  have e2:j≠i:=fun e2=>by subst e2;rw [aD]at e;injection e with e;subst e;cases hg
  rw [aF e2]at e;obtain⟨b,ws',olds,sz,a1,a2,a3,a4,a5,a6⟩:=s.jK j vs' t' n e;exact⟨b,ws',olds,sz,a1,a2,nT a3,by rw [gE (by omega)];exact a4,a5.mono le fr,a6⟩
 ·intro j k b l1 l2
  rcases OS j b l1 with ⟨e1,e2⟩ | ⟨e1,l1⟩
  ·rcases OS k b l2 with ⟨e3,e4⟩ | ⟨e3,l2⟩
   ·rw [e1,e3]
   ·have:=(s.bd l2).2;omega
  ·rcases OS k b l2 with ⟨e3,e4⟩ | ⟨e3,l2⟩
   ·have:=(s.bd l1).2;omega
   ·exact s.inj j k b l1 l2
 ·obtain⟨N,hN⟩:=s.room
  refine⟨max N (i+1),fun j hj=>?_⟩;obtain⟨a1,a2,a3⟩:=hN j (by omega);exact⟨by rw [aF (by omega)];exact a1,by show(if j=i then _ else c.Z j)=none;rw [if_neg (by omega)];exact a2,a3⟩
 ·intro j vs' t' n m b e e3
  have e2:j≠i:=fun e2=>by subst e2;rw [aD]at e;injection e with e;subst e;cases hg
  rw [aF e2]at e;obtain⟨q1,q2⟩:=s.Gb j vs' t' n m b e e3;exact⟨q1,nT q2⟩
 ·intro j vs' t' n b ws' e' olds e e3 e4
  have e2:j≠i:=fun e2=>by subst e2;rw [aD]at e;injection e with e;subst e;cases hg
  rw [aF e2]at e;rw [gE (by have:=(s.Gb j vs' t' n n b e e3).2;omega)]at e4;exact s.old j vs' t' n b ws' e' olds e e3 e4
theorem VS.newRow (s:VS P B Sb c h S){i:Nat} (h0:h i=none) (h1:c.Z i=none) (h2:∀n,c.G i n=none){vs:List V}{ws:List Value} (t:TypeId) (hv:kE c S (cY B c h) vs ws):
 VS P B Sb (c.putZ i S.n) (aR h i (.row vs t)) (S.new (.cells ws t .exact))/\c.le (c.putZ i S.n)/\yG (cY B c h) S (S.new (.cells ws t .exact)) (cY B (c.putZ i S.n) (aR h i (.row vs t)))/\(c.putZ i S.n).Z i=some S.n:=
 s.aBC h0 h1 h2 (o:= .row vs t) rfl fun _ _ _ l f=>⟨ws,rfl,hv.mono l f⟩
theorem VS.Js (s:VS P B Sb c h S){i b:Nat}{o0 o:Ob} (h0:h i=some o0) (g0:PM o0=false) (h1:c.Z i=some b){ao:gV} (hg:PM o=false) (ho:∀S' C',yG (cY B c h) S S' C'->ObR c S' C' o ao):
 VS P B Sb c (aR h i o) (S.set b ao)/\yG (cY B c h) S (S.set b ao) (cY B c (aR h i o)):=by
 have hb:qI c h i b:= .inl ⟨o0,h0,g0,h1⟩;obtain⟨g1,g2⟩:=s.bd hb
 have OS:∀j x,qI c (aR h i o) j x->qI c h j x:=by
  intro j x l;by_cases e:j=i
  ·subst e
   rcases l with ⟨o',e1,eg,e2⟩ | ⟨vs2,t2,n,m,e1,e2⟩
   ·exact .inl ⟨o0,h0,g0,e2⟩
   ·rw [aD]at e1;injection e1 with e1;subst e1;cases hg
  ·rcases l with ⟨o',e1,eg,e2⟩ | ⟨vs2,t2,n,m,e1,e2⟩
   ·rw [aF e]at e1;exact .inl ⟨o',e1,eg,e2⟩
   ·rw [aF e]at e1;exact .inr ⟨vs2,t2,n,m,e1,e2⟩
 have fr:yG (cY B c h) S (S.set b ao) (cY B c (aR h i o)):=by
  refine⟨bN _,fun j _ hc=>kH fun e=>hc (.inr ⟨i,e▸hb⟩),fun x l=>?_⟩;rcases l with l | ⟨j,l⟩
  ·exact .inl (.inl l)
  ·exact .inl (.inr ⟨j,OS j x l⟩)
 refine⟨⟨⟨s.base.n,fun j hj=>?_⟩,s.bB,?_,?_,fun j k x l1 l2=>s.inj j k x (OS j x l1) (OS k x l2),s.Gs,?_,s.MY,?_,?_⟩,fr⟩
 ·rw [kH (by omega)];exact s.base.same j hj
 ·intro j o' e eg
  by_cases e2:j=i
  ·subst e2
   rw [aD]at e;injection e with e;subst e;exact⟨b,ao,h1,g1,g2,Mz,ho _ _ fr⟩
  ·rw [aF e2]at e
   obtain⟨x,a',a1,a2,a3,a4,a5⟩:=s.ob j o' e eg;have:x≠b:=fun e3=>e2 (s.inj j i b (.inl ⟨o',e,eg,e3▸a1⟩) hb);exact⟨x,a',a1,a2,a3,by rw [kH this];exact a4,a5.mono (.refl c) fr⟩
 ·intro j vs2 t2 n e
  have e2:j≠i:=fun e2=>by subst e2;rw [aD]at e;injection e with e;subst e;cases hg
  rw [aF e2]at e;obtain⟨x,ws2,olds,sz,a1,a2,a3,a4,a5,a6⟩:=s.jK j vs2 t2 n e;have:x≠b:=fun e3=>e2 (s.inj j i b (.inr ⟨vs2,t2,n,n,e,e3▸a1⟩) hb);exact⟨x,ws2,olds,sz,a1,a2,a3,by rw [kH this];exact a4,a5.mono (.refl c) fr,a6⟩
 ·obtain⟨N,hN⟩:=s.room
  refine⟨N,fun j hj=>?_⟩;obtain⟨a1,a2,a3⟩:=hN j hj;have:j≠i:=fun e=>by subst e;rw [h0]at a1;cases a1
  exact⟨by rw [aF this];exact a1,a2,a3⟩
 ·intro j vs2 t2 n m x e e3
  have e2:j≠i:=fun e2=>by subst e2;rw [aD]at e;injection e with e;subst e;cases hg
  rw [aF e2]at e;exact s.Gb j vs2 t2 n m x e e3
 ·intro j vs2 t2 n x ws' e' olds e e3 e4
  have e2:j≠i:=fun e2=>by subst e2;rw [aD]at e;injection e with e;subst e;cases hg
  rw [aF e2]at e;have:x≠b:=fun e5=>e2 (s.inj j i b (.inr ⟨vs2,t2,n,n,e,e5▸e3⟩) hb);rw [kH this]at e4;exact s.old j vs2 t2 n x ws' e' olds e e3 e4
theorem VS.aM6 (s:VS P B Sb c h S){i b:Nat}{o0 o:Ob} (h0:h i=some o0) (g0:PM o0=false) (h1:c.Z i=some b) (hg:PM o=false) (ho:∀a C',S.obj b=some a->ObR c S C' o0 a->ObR c S C' o a):
 VS P B Sb c (aR h i o) S/\cY B c (aR h i o)=cY B c h:=by
 have OS:∀j x,qI c (aR h i o) j x↔qI c h j x:=by
  intro j x;by_cases e:j=i
  ·subst e
   constructor
   ·intro l
    rcases l with ⟨o',e1,eg,e2⟩ | ⟨vs2,t2,n,m,e1,e2⟩
    ·exact .inl ⟨o0,h0,g0,e2⟩
    ·rw [aD]at e1;injection e1 with e1;subst e1;cases hg
   ·intro l
    rcases l with ⟨o',e1,eg,e2⟩ | ⟨vs2,t2,n,m,e1,e2⟩
    ·exact .inl ⟨o,aD,hg,e2⟩
    ·rw [h0]at e1;injection e1 with e1;subst e1;cases g0
  ·constructor
   ·intro l
    rcases l with ⟨o',e1,eg,e2⟩ | ⟨vs2,t2,n,m,e1,e2⟩
    ·rw [aF e]at e1;exact .inl ⟨o',e1,eg,e2⟩
    ·rw [aF e]at e1;exact .inr ⟨vs2,t2,n,m,e1,e2⟩
   ·intro l
    rcases l with ⟨o',e1,eg,e2⟩ | ⟨vs2,t2,n,m,e1,e2⟩
    ·exact .inl ⟨o',by rw [aF e];exact e1,eg,e2⟩
    ·exact .inr ⟨vs2,t2,n,m,by rw [aF e];exact e1,e2⟩
 have hL:cY B c (aR h i o)=cY B c h:=by
  funext x
  apply propext;constructor
  ·rintro(l | ⟨j,l⟩)
   ·exact .inl l
   ·exact .inr ⟨j,(OS j x).1 l⟩
  ·rintro(l | ⟨j,l⟩)
   ·exact .inl l
   ·exact .inr ⟨j,(OS j x).2 l⟩
 refine⟨⟨s.base,s.bB,?_,?_,fun j k x l1 l2=>s.inj j k x ((OS j x).1 l1) ((OS k x).1 l2),s.Gs,?_,s.MY,?_,?_⟩,hL⟩
 ·intro j o' e eg
  rw [hL];by_cases e2:j=i
  ·subst e2
   rw [aD]at e;injection e with e;subst e;obtain⟨b',a,a1,a2,a3,a4,a5⟩:=s.ob j o0 h0 g0;rw [h1]at a1;injection a1 with a1;subst a1;exact⟨b,a,h1,a2,a3,a4,ho _ _ a4 a5⟩
  ·rw [aF e2]at e
   exact s.ob j o' e eg
 ·intro j vs2 t2 n e
  have e2:j≠i:=fun e2=>by subst e2;rw [aD]at e;injection e with e;subst e;cases hg
  rw [aF e2]at e;rw [hL];exact s.jK j vs2 t2 n e
 ·obtain⟨N,hN⟩:=s.room
  refine⟨N,fun j hj=>?_⟩;obtain⟨a1,a2,a3⟩:=hN j hj;have:j≠i:=fun e=>by subst e;rw [h0]at a1;cases a1
  exact⟨by rw [aF this];exact a1,a2,a3⟩
 ·intro j vs2 t2 n m x e e3
  have e2:j≠i:=fun e2=>by subst e2;rw [aD]at e;injection e with e;subst e;cases hg
  rw [aF e2]at e;exact s.Gb j vs2 t2 n m x e e3
 ·intro j vs2 t2 n x ws' e' olds e e3 e4
  have e2:j≠i:=fun e2=>by subst e2;rw [aD]at e;injection e with e;subst e;cases hg
  rw [aF e2]at e;exact s.old j vs2 t2 n x ws' e' olds e e3 e4
theorem VS.setRow (s:VS P B Sb c h S){i b:Nat}{vs vs':List V}{t:TypeId} (h0:h i=some (.row vs t)) (h1:c.Z i=some b){ws':List Value} (hv:kE c S (cY B c h) vs' ws'):
 VS P B Sb c (aR h i (.row vs' t)) (S.set b (.cells ws' t .exact))/\yG (cY B c h) S (S.set b (.cells ws' t .exact)) (cY B c (aR h i (.row vs' t))):=
 s.Js h0 rfl h1 (o:= .row vs' t) rfl fun _ _ f=>⟨ws',rfl,hv.mono (.refl c) f⟩
theorem VS.drop (s:VS P B Sb c h S) (l:gA h' h):VS P B Sb c h' S/\yG (cY B c h) S S (cY B c h'):=by
 have OS:∀j x,qI c h' j x->qI c h j x:=by
  intro j x k;rcases k with ⟨o,e1,eg,e2⟩ | ⟨vs2,t2,n,m,e1,e2⟩
  ·exact .inl ⟨o,l _ _ e1,eg,e2⟩
  ·exact .inr ⟨vs2,t2,n,m,l _ _ e1,e2⟩
 have fr:yG (cY B c h) S S (cY B c h'):=by
  refine⟨bN _,fun _ _ _=>rfl,fun x k=>?_⟩;rcases k with k | ⟨j,k⟩
  ·exact .inl (.inl k)
  ·exact .inl (.inr ⟨j,OS j x k⟩)
 refine⟨⟨s.base,s.bB,fun i o e eg=>?_,fun i vs t n e=>?_,fun j k x l1 l2=>s.inj j k x (OS j x l1) (OS k x l2),s.Gs,?_,s.MY,fun i vs t n m b e e3=>s.Gb i vs t n m b (l _ _ e) e3,fun i vs t n b ws e' olds e e3 e4=>s.old i vs t n b ws e' olds (l _ _ e) e3 e4⟩,fr⟩
 ·obtain⟨b,ws,a1,a2,a3,a4,a5⟩:=s.ob i o (l _ _ e) eg
  exact⟨b,ws,a1,a2,a3,a4,a5.mono (.refl c) fr⟩
 ·obtain⟨b,ws,olds,sz,a1,a2,a3,a4,a5,a6⟩:=s.jK i vs t n (l _ _ e)
  exact⟨b,ws,olds,sz,a1,a2,a3,a4,a5.mono (.refl c) fr,a6⟩
 ·obtain⟨N,hN⟩:=s.room
  refine⟨N,fun j hj=>?_⟩;obtain⟨a1,a2,a3⟩:=hN j hj;refine⟨?_,a2,a3⟩;cases e:h' j with
  | none=>rfl
  | some o=>rw [l _ _ e]at a1;cases a1
theorem VS.frz (s:VS P B Sb c h S) (l:gA h' h){v:V}{x:Dt} (k:Py h' h v x):∀{w:Value},fC c S (cY B c h) v w->RY S (cY B c h') x w:=by
 have fr:=(s.drop l).2
 have dead:∀{i b:Nat},qI c h i b->h' i=none->¬cY B c h' b:=by
  intro i b l1 hn l2;rcases l2 with l2 | ⟨j,l2⟩
  ·have:=s.bB b l2;have:=(s.bd l1).1;omega
  ·have l3:qI c h j b:=by
    rcases l2 with ⟨o,e1,eg,e2⟩ | ⟨vs2,t2,n,m,e1,e2⟩
    ·exact .inl ⟨o,l _ _ e1,eg,e2⟩
    ·exact .inr ⟨vs2,t2,n,m,l _ _ e1,e2⟩
   have e:=s.inj i j b l1 l3;subst e;rcases l2 with ⟨o,e1,eg,e2⟩ | ⟨vs2,t2,n,m,e1,e2⟩<;>(rw [hn]at e1;cases e1)
 induction k with
 | int=>intro w q;cases q;exact .int
 | bool=>intro w q;cases q;exact .bool
 | str=>intro w q;cases q;exact .str
 | list=>intro w q;cases q with | list ht hd=>exact hd.mono fr
 | nil=>intro w q;cases q;exact .nil
 | @acc i n vs t cs e hn hl hr ih=>
  intro w q;cases q with
  | acc q=>
   obtain⟨b,ws,olds,sz,a1,a2,a3,a4,a5,a6⟩:=s.jK i vs t n e;rw [a1]at q;injection q with q;subst q;refine .row rfl a3 (dead (.inr ⟨vs,t,n,n,e,a1⟩) hn) a4 (by have:=a5.len;omega) (bN _) fun j x v b1 b2=>?_;rw [fK]at b2;have hj:j<vs.length:=by have:=(cZ.1 b1).1;omega
   exact ih j vs[j] x (aS hj) b1 (a5.rd j _ v (aS hj) b2)
 | @pO i n o k cc vs t cs e hn hc hl hr ih=>
  intro w q;cases q with
  | pO q=>
   obtain⟨b,ws,olds,sz,a1,a2,a3,a4,a5,a6⟩:=s.jK i vs t n e;rw [a1]at q;injection q with q;injection q with q;injection q with q;injection q with q;subst q;refine .row rfl a3 (dead (.inr ⟨vs,t,n,n,e,a1⟩) hn) a4 (by have:=a5.len;omega) hc fun j x v b1 b2=>?_;have hj:o+j<vs.length:=by have:=(cZ.1 b1).1;omega
   exact ih j vs[o+j] x (aS hj) b1 (a5.rd (o+j) _ v (aS hj) b2)
 | @own i o n cc vs t cs e hn hc hl hr ih=>
  intro w q;cases q with
  | own q=>
   obtain⟨b,ws,a1,a2,a3,a4,a5⟩:=s.row i vs t e;rw [a1]at q;injection q with q;subst q;refine .row rfl a3 (dead (.inl ⟨_,e,rfl,a1⟩) hn) a4 (by have:=a5.len;omega) hc fun j x v b1 b2=>?_;have hj:o+j<vs.length:=by have:=(cZ.1 b1).1;omega
   exact ih j vs[o+j] x (aS hj) b1 (a5.rd (o+j) _ v (aS hj) b2)
theorem VS.names (s:VS P B Sb c h S) (ws:List Value):∃(d:Cx) (O:Nat->Tag),c.le d/\VS P B Sb d h S/\cY B d h=cY B c h/\∀(k:Nat) (w:Value),ws[k]? =some w->JD d S (cY B d h) (O k) w:=by
 obtain⟨M,hM⟩:=s.MY
 let d:Cx:=⟨c.Z,c.G,fun k=>if k<M then c.Yz k else ws[k-M]?,c.n0⟩
 have le:c.le d:=by
  refine⟨fun _ _ e=>e,fun _ _ _ e=>e,fun k v e=>?_,rfl⟩;show(if k<M then c.Yz k else ws[k-M]?)=some v;by_cases hk:k<M
  ·rw [if_pos hk];exact e
  ·rw [hM k (by omega)]at e;cases e
 have fr:yG (cY B c h) S S (cY B d h):=⟨bN _,fun _ _ _=>rfl,fun _ k=> .inl k⟩;refine⟨d,fun k=> .root (M+k),le,⟨s.base,s.bB,fun i o e eg=>?_,fun i vs t n e=>?_,s.inj,s.Gs,s.room,⟨M+ws.length,fun k hk=>?_⟩,s.Gb,s.old⟩,rfl,fun k w e=> .root ?_⟩
 ·obtain⟨b,ws,a1,a2,a3,a4,a5⟩:=s.ob i o e eg
  exact⟨b,ws,a1,a2,a3,a4,a5.mono le fr⟩
 ·obtain⟨b,ws,olds,sz,a1,a2,a3,a4,a5,a6⟩:=s.jK i vs t n e
  exact⟨b,ws,olds,sz,a1,a2,a3,a4,a5.mono le fr,a6⟩
 ·show(if k<M then c.Yz k else ws[k-M]?)=none
  rw [if_neg (by omega),DC (by omega)]
 ·show(if M+k<M then c.Yz (M+k)else ws[M+k-M]?)=some w
  rw [if_neg (by omega),Wv];exact e
theorem VS.Zx (s:VS P B Sb c h S){i:Nat} (h0:h i=none) (h1:c.Z i=none) (h2:∀n,c.G i n=none){vs:List V}{ws:List Value}{t:TypeId}{sz n:Nat} (hs:bP P t=some sz) (hn:vs.length=n*sz) (hv:kE c S (cY B c h) vs ws):
 let w:Value:= .slice (some ⟨S.n,0,some 0⟩) n n
 VS P B Sb (c.putG i n w) (aR h i (.jK vs t n)) (S.new (.cells ws t (.grown [])))/\c.le (c.putG i n w)/\yG (cY B c h) S (S.new (.cells ws t (.grown []))) (cY B (c.putG i n w) (aR h i (.jK vs t n)))/\(c.putG i n w).G i n=some w:=by
 intro w;have le:=Cx.putG_le (c:=c) (i:=i) (n:=n) (w:=w) (h2 n)
 have OS:∀j b,qI (c.putG i n w) (aR h i (.jK vs t n)) j b->(j=i/\b=S.n)\/(j≠i/\qI c h j b):=by
  intro j b l;by_cases e:j=i
  ·subst e
   rcases l with ⟨o',e1,eg,e2⟩ | ⟨vs',t',n',m,e1,e2⟩
   ·rw [aD]at e1;injection e1 with e1;subst e1;cases eg
   ·have e2:(if j=j/\m=n then some w else c.G j m)=_:=e2
    by_cases hm:m=n
    ·rw [if_pos ⟨rfl,hm⟩]at e2
     injection e2 with e2;injection e2 with e2;injection e2 with e2;injection e2 with e2;exact .inl ⟨rfl,e2.symm⟩
    ·rw [if_neg (fun x=>hm x.2),h2]at e2;cases e2
  ·refine .inr ⟨e,?_⟩
   rcases l with ⟨o',e1,eg,e2⟩ | ⟨vs',t',n',m,e1,e2⟩
   ·rw [aF e]at e1
    exact .inl ⟨o',e1,eg,e2⟩
   ·rw [aF e]at e1
    have e2:(if j=i/\m=n then some w else c.G j m)=_:=e2;rw [if_neg (fun x=>e x.1)]at e2;exact .inr ⟨vs',t',n',m,e1,e2⟩
 have fr:yG (cY B c h) S (S.new (.cells ws t (.grown []))) (cY B (c.putG i n w) (aR h i (.jK vs t n))):=by
  refine⟨VY _,fun j hj _=>gE (Nat.ne_of_lt hj),fun b l=>?_⟩;rcases l with l | ⟨j,l⟩
  ·exact .inl (.inl l)
  ·rcases OS j b l with ⟨_,e⟩ | ⟨_,l⟩
   ·exact .inr (Cm e.symm)
   ·exact .inl (.inr ⟨j,l⟩)
 refine⟨⟨s.base.trans (.new S _),s.bB,?_,?_,?_,?_,?_,s.MY,?_,?_⟩,le,fr,if_pos ⟨rfl,rfl⟩⟩
 ·intro j o' e eg
  have e2:j≠i:=fun e2=>by subst e2;rw [aD]at e;injection e with e;subst e;cases eg
  rw [aF e2]at e;obtain⟨b,ws',a1,a2,a3,a4,a5⟩:=s.ob j o' e eg;exact⟨b,ws',a1,a2,nT a3,by rw [gE (by omega)];exact a4,a5.mono le fr⟩
 ·intro j vs' t' m e
  by_cases e2:j=i
  ·subst e2
   rw [aD]at e;injection e with e;injection e with e3 e4 e5;subst e3 e4 e5;refine⟨S.n,ws,[],sz,if_pos ⟨rfl,rfl⟩,s.base.n,vI _,rJ,hv.mono le fr,hs,hn,fun m hm=>?_⟩;show(if j=j/\m=n then some w else c.G j m)=none;rw [if_neg (fun x=>by omega)];exact h2 m
  ·rw [aF e2]at e
   obtain⟨b,ws',olds,sz',a1,a2,a3,a4,a5,a6,a7,a8⟩:=s.jK j vs' t' m e;refine⟨b,ws',olds,sz',le.G _ _ _ a1,a2,nT a3,by rw [gE (by omega)];exact a4,a5.mono le fr,a6,a7,fun q hq=>?_⟩;show(if j=i/\q=n then some w else c.G j q)=none;rw [if_neg (fun x=>e2 x.1)];exact a8 q hq
 ·intro j k b l1 l2
  rcases OS j b l1 with ⟨e1,e2⟩ | ⟨e1,l1⟩
  ·rcases OS k b l2 with ⟨e3,e4⟩ | ⟨e3,l2⟩
   ·rw [e1,e3]
   ·have:=(s.bd l2).2;omega
  ·rcases OS k b l2 with ⟨e3,e4⟩ | ⟨e3,l2⟩
   ·have:=(s.bd l1).2;omega
   ·exact s.inj j k b l1 l2
 ·intro j m u e
  have e:(if j=i/\m=n then some w else c.G j m)=some u:=e;by_cases e2:j=i/\m=n
  ·rw [if_pos e2]at e;injection e with e;exact⟨S.n,by rw [<-e,e2.2]⟩
  ·rw [if_neg e2]at e;exact s.Gs j m u e
 ·obtain⟨N,hN⟩:=s.room
  refine⟨max N (i+1),fun j hj=>?_⟩;obtain⟨a1,a2,a3⟩:=hN j (by omega);exact⟨by rw [aF (by omega)];exact a1,a2,fun m=>by show(if j=i/\m=n then some w else c.G j m)=none;rw [if_neg (fun x=>by omega)];exact a3 m⟩
 ·intro j vs' t' n' m b e e3
  have e3:(if j=i/\m=n then some w else c.G j m)=_:=e3;by_cases e2:j=i/\m=n
  ·rw [if_pos e2]at e3
   injection e3 with e3;injection e3 with e3;injection e3 with e3;injection e3 with e3;rw [<-e3];exact⟨s.base.n,vI _⟩
  ·rw [if_neg e2]at e3
   by_cases e4:j=i
   ·have e5:=e4▸h2 m;rw [e5]at e3;cases e3
   ·rw [aF e4]at e
    obtain⟨q1,q2⟩:=s.Gb j vs' t' n' m b e e3;exact⟨q1,nT q2⟩
 ·intro j vs' t' n' b ws' e' olds e e3 e5 x hx
  have e3:(if j=i/\n'=n then some w else c.G j n')=_:=e3;by_cases e4:j=i
  ·subst e4
   by_cases e6:n'=n
   ·rw [if_pos ⟨rfl,e6⟩]at e3
    injection e3 with e3;injection e3 with e3;injection e3 with e3;injection e3 with e3;rw [<-e3,rJ]at e5;injection e5 with e5;injection e5 with _ _ e5;injection e5 with e5;rw [<-e5]at hx;cases hx
   ·rw [if_neg (fun x=>e6 x.2),h2]at e3;cases e3
  ·rw [if_neg (fun x=>e4 x.1)]at e3
   rw [aF e4]at e;rw [gE (by have:=(s.Gb j vs' t' n' n' b e e3).2;omega)]at e5;obtain⟨m,hm⟩:=s.old j vs' t' n' b ws' e' olds e e3 e5 x hx;exact⟨m,le.G _ _ _ hm⟩
theorem VS.aBD (s:VS P B Sb c h S){i n m b:Nat}{vs nv:List V}{t:TypeId}{sz:Nat}{ws nw:List Value}{olds:List Nat} (h0:h i=some (.jK vs t n)) (hb:c.G i n=some (.slice (some ⟨b,0,some 0⟩) n n)) (ho:S.obj b=some (.cells ws t (.grown olds))) (hs:bP P t=some sz)
 (hn:nv.length=m*sz) (hm:0<m) (DQ:vs.length=n*sz) (hvw:kE c S (cY B c h) vs ws) (hv:kE c S (cY B c h) nv nw):
 let w:Value:= .slice (some ⟨S.n,0,some 0⟩) (n+m) (n+m)
 let S':=(S.set b (.cells ws t .qV)).new (.cells (ws++nw) t (.grown (b::olds)))
 VS P B Sb (c.putG i (n+m) w) (aR h i (.jK (vs++nv) t (n+m))) S'/\c.le (c.putG i (n+m) w)/\yG (cY B c h) S S' (cY B (c.putG i (n+m) w) (aR h i (.jK (vs++nv) t (n+m))))/\(c.putG i (n+m) w).G i (n+m)=some w:=by
 intro w S';obtain⟨b',_,_,_,q1,_,_,_,_,_,_,q8⟩:=s.jK i vs t n h0;have hlb:qI c h i b:= .inr ⟨vs,t,n,n,h0,hb⟩;obtain⟨g1,g2⟩:=s.bd hlb;have le:=Cx.putG_le (c:=c) (i:=i) (n:=n+m) (w:=w) (q8 _ (by omega));have hSn:(S.set b (.cells ws t .qV)).n=S.n:=rfl
 have OS:∀j x,qI (c.putG i (n+m) w) (aR h i (.jK (vs++nv) t (n+m))) j x->(j=i/\x=S.n)\/qI c h j x:=by
  intro j x l;by_cases e:j=i
  ·subst e
   rcases l with ⟨o',e1,eg,e2⟩ | ⟨vs',t',n',k,e1,e2⟩
   ·rw [aD]at e1;injection e1 with e1;subst e1;cases eg
   ·have e2:(if j=j/\k=n+m then some w else c.G j k)=_:=e2
    by_cases hk:k=n+m
    ·rw [if_pos ⟨rfl,hk⟩]at e2
     injection e2 with e2;injection e2 with e2;injection e2 with e2;injection e2 with e2;exact .inl ⟨rfl,e2.symm⟩
    ·rw [if_neg (fun x=>hk x.2)]at e2
     exact .inr (.inr ⟨vs,t,n,k,h0,e2⟩)
  ·refine .inr ?_
   rcases l with ⟨o',e1,eg,e2⟩ | ⟨vs',t',n',k,e1,e2⟩
   ·rw [aF e]at e1
    exact .inl ⟨o',e1,eg,e2⟩
   ·rw [aF e]at e1
    have e2:(if j=i/\k=n+m then some w else c.G j k)=_:=e2;rw [if_neg (fun x=>e x.1)]at e2;exact .inr ⟨vs',t',n',k,e1,e2⟩
 have fr:yG (cY B c h) S S' (cY B (c.putG i (n+m) w) (aR h i (.jK (vs++nv) t (n+m)))):=by
  refine⟨VY _,fun j hj hc=>?_,fun x l=>?_⟩
  ·show((S.set b _).new _).obj j=_
   rw [gE (by rw [hSn];omega),kH (show j≠b from fun e=>hc (.inr ⟨i,e▸hlb⟩))]
  ·rcases l with l | ⟨j,l⟩
   ·exact .inl (.inl l)
   ·rcases OS j x l with ⟨_,e⟩ | l
    ·exact .inr (Cm e.symm)
    ·exact .inl (.inr ⟨j,l⟩)
 have oth:∀j x,j≠i->qI c h j x->S'.obj x=S.obj x:=fun j x e l=>by
  have:x≠b:=fun e3=>e (s.inj j i b (e3▸l) hlb);show((S.set b _).new _).obj x=_;rw [gE (by rw [hSn];have:=(s.bd l).2;omega),kH this]
 refine⟨⟨⟨Nat.le_succ_of_le s.base.n,fun j hj=>?_⟩,s.bB,?_,?_,?_,?_,?_,s.MY,?_,?_⟩,le,fr,if_pos ⟨rfl,rfl⟩⟩
 ·have:=s.base.n
  show((S.set b _).new _).obj j=_;rw [gE (by rw [hSn];omega),kH (by omega)];exact s.base.same j hj
 ·intro j o' e eg
  have e2:j≠i:=fun e2=>by subst e2;rw [aD]at e;injection e with e;subst e;cases eg
  rw [aF e2]at e;obtain⟨x,ws',a1,a2,a3,a4,a5⟩:=s.ob j o' e eg;exact⟨x,ws',a1,a2,nT a3,by rw [oth j x e2 (.inl ⟨o',e,eg,a1⟩)];exact a4,a5.mono le fr⟩
 ·intro j vs' t' k e
  by_cases e2:j=i
  ·subst e2
   rw [aD]at e;injection e with e;injection e with e3 e4 e5;subst e3 e4 e5;refine⟨S.n,ws++nw,b::olds,sz,if_pos ⟨rfl,rfl⟩,s.base.n,vI _,?_,(hvw.app hv).mono le fr,hs,by rw [bW,DQ,hn,kJ],fun q hq=>?_⟩
   ·show((S.set b _).new _).obj (S.set b (.cells ws t .qV)).n=_
    exact rJ
   ·show(if j=j/\q=n+m then some w else c.G j q)=none
    rw [if_neg (fun x=>by omega)];exact q8 q (by omega)
  ·rw [aF e2]at e
   obtain⟨x,ws',ZF,sz',a1,a2,a3,a4,a5,a6,a7,a8⟩:=s.jK j vs' t' k e;refine⟨x,ws',ZF,sz',le.G _ _ _ a1,a2,nT a3,by rw [oth j x e2 (.inr ⟨vs',t',k,k,e,a1⟩)];exact a4,a5.mono le fr,a6,a7,fun q hq=>?_⟩;show(if j=i/\q=n+m then some w else c.G j q)=none;rw [if_neg (fun x=>e2 x.1)];exact a8 q hq
 ·intro j k x l1 l2
  rcases OS j x l1 with ⟨e1,e2⟩ | l1
  ·rcases OS k x l2 with ⟨e3,e4⟩ | l2
   ·rw [e1,e3]
   ·have:=(s.bd l2).2;omega
  ·rcases OS k x l2 with ⟨e3,e4⟩ | l2
   ·have:=(s.bd l1).2;omega
   ·exact s.inj j k x l1 l2
 ·intro j k u e
  have e:(if j=i/\k=n+m then some w else c.G j k)=some u:=e;by_cases e2:j=i/\k=n+m
  ·rw [if_pos e2]at e;injection e with e;exact⟨S.n,by rw [<-e,e2.2]⟩
  ·rw [if_neg e2]at e;exact s.Gs j k u e
 ·obtain⟨N,hN⟩:=s.room
  refine⟨max N (i+1),fun j hj=>?_⟩;obtain⟨a1,a2,a3⟩:=hN j (by omega);exact⟨by rw [aF (by omega)];exact a1,a2,fun q=>by show(if j=i/\q=n+m then some w else c.G j q)=none;rw [if_neg (fun x=>by omega)];exact a3 q⟩
 ·intro j vs' t' n' k x e e3
  rcases OS j x (.inr ⟨vs',t',n',k,e,e3⟩)with ⟨_,e4⟩ | l
  ·rw [e4];exact⟨s.base.n,vI _⟩
  ·obtain⟨q1,q2⟩:=s.bd l
   exact⟨q1,nT q2⟩
 ·intro j vs' t' n' x ws' e' ZF e e3 e5 y hy
  have e3:(if j=i/\n'=n+m then some w else c.G j n')=_:=e3;by_cases e4:j=i
  ·subst e4
   rw [aD]at e;injection e with e;injection e with _ _ e6;rw [if_pos ⟨rfl,e6.symm⟩]at e3;injection e3 with e3;injection e3 with e3;injection e3 with e3;injection e3 with e3
   have e7:S'.obj S.n=some (.cells (ws++nw) t (.grown (b::olds))):=by
    show((S.set b _).new _).obj (S.set b (.cells ws t .qV)).n=_;exact rJ
   rw [<-e3,e7]at e5;injection e5 with e5;injection e5 with _ _ e5;injection e5 with e5;rw [<-e5]at hy;rcases cO.1 hy with rfl | hy
   ·exact⟨n,le.G _ _ _ hb⟩
   ·obtain⟨q,hq⟩:=s.old j vs t n b ws t olds h0 hb ho y hy
    exact⟨q,le.G _ _ _ hq⟩
  ·rw [if_neg (fun x=>e4 x.1)]at e3
   rw [aF e4]at e;rw [oth j x e4 (.inr ⟨vs',t',n',n',e,e3⟩)]at e5;obtain⟨q,hq⟩:=s.old j vs' t' n' x ws' e' ZF e e3 e5 y hy;exact⟨q,le.G _ _ _ hq⟩
theorem VS.aFq (s:VS P B Sb c h S){i n b:Nat}{vs vs':List V}{t:TypeId}{ws ws':List Value}{olds ol kl:List Nat} (Cw:∀x∈ol,x∈olds) (hkl:∀x∈kl,x∈olds) (h0:h i=some (.jK vs t n)) (hb:c.G i n=some (.slice (some ⟨b,0,some 0⟩) n n)) (ho:S.obj b=some (.cells ws t (.grown olds))) (hl:vs'.length=vs.length) (hv:kE c S (cY B c h) vs' ws'){S':St}
 (hn:S'.n=S.n) (hs:∀j,S'.obj j=if j=b then some (.cells ws' t (.grown ol))else if j∈kl then some .dead else S.obj j):
 VS P B Sb c (aR h i (.jK vs' t n)) S'/\yG (cY B c h) S S' (cY B c (aR h i (.jK vs' t n))):=by
 have hlb:qI c h i b:= .inr ⟨vs,t,n,n,h0,hb⟩
 have hold:∀x∈olds,qI c h i x:=fun x hx=>by
  obtain⟨m,hm⟩:=s.old i vs t n b ws t olds h0 hb ho x hx;exact .inr ⟨vs,t,n,m,h0,hm⟩
 have OS:∀j x,qI c (aR h i (.jK vs' t n)) j x->qI c h j x:=by
  intro j x l;by_cases e:j=i
  ·subst e
   rcases l with ⟨o',e1,eg,e2⟩ | ⟨vs2,t2,n',m,e1,e2⟩
   ·rw [aD]at e1;injection e1 with e1;subst e1;cases eg
   ·exact .inr ⟨vs,t,n,m,h0,e2⟩
  ·rcases l with ⟨o',e1,eg,e2⟩ | ⟨vs2,t2,n',m,e1,e2⟩
   ·rw [aF e]at e1;exact .inl ⟨o',e1,eg,e2⟩
   ·rw [aF e]at e1;exact .inr ⟨vs2,t2,n',m,e1,e2⟩
 have same:∀x,¬qI c h i x->S'.obj x=S.obj x:=fun x hx=>by
  rw [hs,if_neg (fun e:x=b=>hx (e▸hlb)),if_neg (fun e=>hx (hold x (hkl x e)))]
 have oth:∀j x,j≠i->qI c h j x->S'.obj x=S.obj x:=fun j x e l=>same x fun l2=>e (s.inj j i x l l2)
 have fr:yG (cY B c h) S S' (cY B c (aR h i (.jK vs' t n))):=by
  refine⟨Cm hn.symm,fun j _ hc=>same j fun l=>hc (.inr ⟨i,l⟩),fun x l=>?_⟩;rcases l with l | ⟨j,l⟩
  ·exact .inl (.inl l)
  ·exact .inl (.inr ⟨j,OS j x l⟩)
 refine⟨⟨⟨by rw [hn];exact s.base.n,fun j hj=>?_⟩,s.bB,?_,?_,fun j k x l1 l2=>s.inj j k x (OS j x l1) (OS k x l2),s.Gs,?_,s.MY,?_,?_⟩,fr⟩
 ·rw [same j fun l=>by have:=(s.bd l).1;omega];exact s.base.same j hj
 ·intro j o' e eg
  have e2:j≠i:=fun e2=>by subst e2;rw [aD]at e;injection e with e;subst e;cases eg
  rw [aF e2]at e;obtain⟨x,a',a1,a2,a3,a4,a5⟩:=s.ob j o' e eg;exact⟨x,a',a1,a2,by rw [hn];exact a3,by rw [oth j x e2 (.inl ⟨o',e,eg,a1⟩)];exact a4,a5.mono (.refl c) fr⟩
 ·intro j vs2 t2 k e
  by_cases e2:j=i
  ·subst e2
   rw [aD]at e;injection e with e;injection e with e3 e4 e5;subst e3 e4 e5;obtain⟨x,ws2,ZF,sz',a1,a2,a3,a4,a5,a6,a7,a8⟩:=s.jK j vs t n h0;rw [hb]at a1;injection a1 with a1;injection a1 with a1;injection a1 with a1;injection a1 with a1;subst a1;exact⟨b,ws',ol,sz',hb,a2,by rw [hn];exact a3,by rw [hs,if_pos rfl],hv.mono (.refl c) fr,a6,by rw [hl];exact a7,a8⟩
  ·rw [aF e2]at e
   obtain⟨x,ws2,ZF,sz',a1,a2,a3,a4,a5,a6⟩:=s.jK j vs2 t2 k e;exact⟨x,ws2,ZF,sz',a1,a2,by rw [hn];exact a3,by rw [oth j x e2 (.inr ⟨vs2,t2,k,k,e,a1⟩)];exact a4,a5.mono (.refl c) fr,a6⟩
 ·obtain⟨N,hN⟩:=s.room
  refine⟨N,fun j hj=>?_⟩;obtain⟨a1,a2,a3⟩:=hN j hj;have:j≠i:=fun e=>by subst e;rw [h0]at a1;cases a1
  exact⟨by rw [aF this];exact a1,a2,a3⟩
 ·intro j vs2 t2 k m x e e3
  rw [hn];exact s.bd (OS j x (.inr ⟨vs2,t2,k,m,e,e3⟩))
 ·intro j vs2 t2 k x ws2 e' ZF e e3 e5 y hy
  by_cases e2:j=i
  ·subst e2
   rw [aD]at e;injection e with e;injection e with _ _ e6;subst e6;rw [hb]at e3;injection e3 with e3;injection e3 with e3;injection e3 with e3;injection e3 with e3;subst e3;rw [hs,if_pos rfl]at e5;injection e5 with e5;injection e5 with _ _ e5;injection e5 with e5;rw [<-e5]at hy;exact s.old j vs t n b ws t olds h0 hb ho y (Cw y hy)
  ·rw [aF e2]at e
   rw [oth j x e2 (.inr ⟨vs2,t2,k,k,e,e3⟩)]at e5;exact s.old j vs2 t2 k x ws2 e' ZF e e3 e5 y hy
end
section
variable{α:Type}
theorem Ug (t:Tr α):∀(n:Nat) (k:α->Prop),aCU t n k->∃x,t.get n=some x/\k x:=by
 induction t with
 | leaf=>intro n k h;cases h
 | node v l r ihl ihr=>
  intro n k h;cases n with
  | zero=>
   cases v with
   | none=>cases h
   | some x=>exact⟨x,rfl,h⟩
  | succ p=>
   have h:nU (Nat.mod p 2) (aCU l (Nat.div p 2) k) (fun _=>aCU r (Nat.div p 2) k):=h;have hm:p%2=0\/p%2=1:=by omega
   rcases hm with hm | hm
   ·have:Nat.mod p 2=0:=hm
    rw [this]at h;obtain⟨x,e1,e2⟩:=ihl _ _ (show aCU l (Nat.div p 2) k from h);refine⟨x,?_,e2⟩;have e3:(p+1) / 2=Nat.div p 2:=by show _=p / 2;omega
    simp only [Tr.get,GD,GF,and_false,if_false,show(p+1)%2=1 by omega,if_true,e3];exact e1
   ·have:Nat.mod p 2=0+1:=hm
    rw [this]at h;obtain⟨x,e1,e2⟩:=ihr _ _ (show aCU r (Nat.div p 2) k from h);refine⟨x,?_,e2⟩;have e3:(p+1) / 2-1=Nat.div p 2:=by show _=p / 2;omega
    simp only [Tr.get,GD,GF,and_false,if_false,show ¬(p+1)%2=1 by omega,e3];exact e1
theorem aFr (t:Tr α){k:Prop}:∀(n:Nat),aCW t n k->t.get n=none/\k:=by
 induction t with
 | leaf=>intro n h;exact⟨rfl,h⟩
 | node v l r ihl ihr=>
  intro n h;cases n with
  | zero=>
   cases v with
   | none=>exact⟨rfl,h⟩
   | some x=>cases h
  | succ p=>
   have h:nU (Nat.mod p 2) (aCW l (Nat.div p 2) k) (fun _=>aCW r (Nat.div p 2) k):=h;have hm:p%2=0\/p%2=1:=by omega
   rcases hm with hm | hm
   ·have:Nat.mod p 2=0:=hm
    rw [this]at h;obtain⟨e1,e2⟩:=ihl _ (show aCW l (Nat.div p 2) k from h);refine⟨?_,e2⟩;have e3:(p+1) / 2=Nat.div p 2:=by show _=p / 2;omega
    simp only [Tr.get,GD,GF,and_false,if_false,show(p+1)%2=1 by omega,if_true,e3];exact e1
   ·have:Nat.mod p 2=0+1:=hm
    rw [this]at h;obtain⟨e1,e2⟩:=ihr _ (show aCW r (Nat.div p 2) k from h);refine⟨?_,e2⟩;have e3:(p+1) / 2-1=Nat.div p 2:=by show _=p / 2;omega
    simp only [Tr.get,GD,GF,and_false,if_false,show ¬(p+1)%2=1 by omega,e3];exact e1
theorem aHM (t:Tr α):∀(n:Nat) (k:Tr α->Prop),aFj t n k=k (t.del n):=by
 induction t with
 | leaf=>intro n k;rfl
 | node v l r il ir=>
  intro n k;cases n with
  | zero=>rfl
  | succ p=>
   show nU (p%2) (aFj l (p / 2) fun c=>k (.node v c r)) (fun _=>aFj r (p / 2) fun c=>k (.node v l c))=_;rw [il,ir];have aD8:p+1≠0:=by omega
   simp only [Tr.del,if_neg aD8];rcases Nat.mod_two_eq_zero_or_one p with h | h
   ·rw [h,if_pos (by omega),show(p+1) / 2=p / 2 by omega];rfl
   ·rw [h,if_neg (by omega),show(p+1) / 2-1=p / 2 by omega];rfl
theorem aHN (x:α):∀(f:Nat) (t:Tr α) (n:Nat) (k:Tr α->Prop),aCV x f t n k=k (Tr.CA x f t n):=by
 intro f;induction f with
 | zero=>intro t n k;rfl
 | succ f ih=>
  intro t n k;cases t with
  | leaf=>
   cases n with
   | zero=>rfl
   | succ p=>
    show nU (Nat.mod p 2) (aCV x f .leaf (Nat.div p 2) fun c=>k (.node none c .leaf)) (fun _=>aCV x f .leaf (Nat.div p 2) fun c=>k (.node none .leaf c))=_;rw [ih,ih];have hm:p%2=0\/p%2=1:=by omega
    rcases hm with hm | hm
    ·have:Nat.mod p 2=0:=hm
     rw [this];have e3:(p+1) / 2=Nat.div p 2:=by show _=p / 2;omega
     simp only [Tr.CA,GD,GF,and_false,if_false,show(p+1)%2=1 by omega,if_true,e3];rfl
    ·have:Nat.mod p 2=0+1:=hm
     rw [this];have e3:(p+1) / 2-1=Nat.div p 2:=by show _=p / 2;omega
     simp only [Tr.CA,GD,GF,and_false,if_false,show ¬(p+1)%2=1 by omega,e3];rfl
  | node v l r=>
   cases n with
   | zero=>rfl
   | succ p=>
    show nU (Nat.mod p 2) (aCV x f l (Nat.div p 2) fun c=>k (.node v c r)) (fun _=>aCV x f r (Nat.div p 2) fun c=>k (.node v l c))=_;rw [ih,ih];have hm:p%2=0\/p%2=1:=by omega
    rcases hm with hm | hm
    ·have:Nat.mod p 2=0:=hm
     rw [this];have e3:(p+1) / 2=Nat.div p 2:=by show _=p / 2;omega
     simp only [Tr.CA,GD,GF,and_false,if_false,show(p+1)%2=1 by omega,if_true,e3];rfl
    ·have:Nat.mod p 2=0+1:=hm
     rw [this];have e3:(p+1) / 2-1=Nat.div p 2:=by show _=p / 2;omega
     simp only [Tr.CA,GD,GF,and_false,if_false,show ¬(p+1)%2=1 by omega,e3];rfl
theorem HN{l:List α}{i:Nat}{k:α->Prop} (h:TX l i k):∃a,l[i]? =some a/\k a:=by
 unfold TX at h;split at h
 ·rename_i a e;exact⟨a,e,h⟩
 ·cases h
end
structure Al (c:Cx) (S:St) (C:Nat->Prop) (l:List Nat):Prop where
 n0:c.n0<=S.n
 nd:l.Nodup
 ok:∀d∈l,c.n0<=d/\d<S.n/\¬C d/\S.obj d=some .defers
theorem Al.mono{c d:Cx}{S S':St}{C C':Nat->Prop}{m:List Nat} (k:Al c S C m) (l:c.le d) (f:yG C S S' C'):Al d S' C' m:=by
 refine⟨by rw [l.n0];exact rD k.n0 f.n,k.nd,fun x hx=>?_⟩;obtain⟨h1,h2,h3,h4⟩:=k.ok x hx;refine⟨by rw [l.n0];exact h1,BC h2 f.n,fun h=>?_,by rw [f.same x h2 h3];exact h4⟩;rcases f.sub _ h with h | h
 ·exact h3 h
 ·omega
structure AR (c:Cx) (S:St) (C:Nat->Prop) (A:VA) (A':aM):Prop where
 n:A.tmps.n=A'.tmps.n
 g:A.g=A'.g
 marks:Al c S C A'.marks
 got:∀i v,A.tmps.t.get i=some v->∃w,A'.tmps.t.get i=some w/\fC c S C v w
 abs:∀i,A.tmps.t.get i=none->A'.tmps.t.get i=none
section
variable{P:Program}{B:Nat->Prop}{Sb:St}{c c' d:Cx}{h h':Hp}{S S':St}{C C':Nat->Prop}
theorem AR.mono{A:VA}{A':aM} (a:AR c S C A A') (l:c.le d) (f:yG C S S' C'):AR d S' C' A A':=
 ⟨a.n,a.g,a.marks.mono l f,fun i v e=>let⟨w,p,q⟩:=a.got i v e;⟨w,p,q.mono l f⟩,a.abs⟩
theorem AR.put{A:VA}{A':aM} (a:AR c S C A A'){i:Nat}{v:V}{w:Value} (hv:fC c S C v w):AR c S C ⟨⟨A.tmps.t.put i v,A.tmps.n⟩,A.g⟩ ⟨A'.tmps.put i w,A'.marks,A'.g⟩:=by
 refine⟨a.n,a.g,a.marks,fun j x e=>?_,fun j e=>?_⟩
 ·have e:(A.tmps.t.put i v).get j=some x:=e
  rw [vB]at e;show ∃w',(A'.tmps.t.put i w).get j=some w'/\_;rw [vB];by_cases hj:j=i
  ·rw [if_pos hj]at e ⊢;injection e with e;subst e;exact⟨w,rfl,hv⟩
  ·rw [if_neg hj]at e ⊢;exact a.got j x e
 ·have e:(A.tmps.t.put i v).get j=none:=e
  rw [vB]at e;show(A'.tmps.t.put i w).get j=none;rw [vB];by_cases hj:j=i
  ·rw [if_pos hj]at e;cases e
  ·rw [if_neg hj]at e ⊢;exact a.abs j e
theorem xJ{A:VA}{A':aM} (a:AR c S C A A'){i:Nat}{k:V->Prop}{k':Value->Bool} (h:Hz A.tmps i k) (hk:∀v w,fC c S C v w->k v->k' w=true):NO A'.tmps i k'=true:=by
 obtain⟨v,e,hv⟩:=Ug _ _ _ h;obtain⟨w,e2,r⟩:=a.got i v e;unfold NO;rw [lB,e2];exact hk v w r hv
theorem OC{v:V}{T:Nv}{i:Nat}{k:Nv->Prop} (h:PQ v T i k):i<T.n/\k ⟨T.t.put i v,T.n⟩:=by
 obtain⟨t,n⟩:=T;unfold PQ at h;simp only at h;split at h
 ·rename_i hb
  rw [aHN]at h;exact⟨bE hb,h⟩
 ·cases h
theorem UE{v:Value}{T:Tm}{i:Nat} (hi:i<T.n) (k:Tm->Bool):qW v T i k=k (T.put i v):=by
 unfold qW;rw [show Nat.blt i T.n=true from iW hi,IR];rfl
theorem Jt{A:VA}{A':aM} (a:AR c S C A A'){d:Tmp}{v:V}{w:Value} (hv:fC c S C v w){k:VA->Prop}{k':aM->Bool} (h:Fi A d v k) (hk:∀B B',AR c S C B B'->k B->k' B'=true):lE A' (some d) w k'=true:=by
 obtain⟨T,g⟩:=A;obtain⟨h1,h2⟩:=OC (show PQ v T d (fun T=>k ⟨T,g⟩)from h);show qW w A'.tmps d (fun ts=>k' ⟨ts,A'.marks,A'.g⟩)=true;rw [UE (by rw [<-a.n];exact h1)];exact hk _ _ (a.put hv) h2
theorem aFs{v:Value}{x:V} (e:ofC v=some x):iZ v=true/\fC c S C x v:=by
 unfold ofC at e;split at e
 ·rename_i cs
  split at e
  ·rename_i l hl
   injection e with e;subst e;have DQ:kE c S C l cs:=OB hl;refine⟨?_,.agg DQ.len DQ.rd⟩;show cs.all bA=true
   have:∀(cs:List Value) (l:List V),IZ cs=some l->cs.all bA=true:=by
    intro cs;induction cs with
    | nil=>intro _ _;rfl
    | cons a cs ih=>
     intro l h;unfold IZ at h;split at h
     ·rename_i x hx
      split at h
      ·rename_i xs hxs
       simp only [VW,Uf hx,ih xs hxs,Bool.and_self]
      ·cases h
     ·cases h
   exact this cs l hl
  ·cases e
 ·have hf:=Uf e
  refine⟨?_,aFp e⟩;cases v<;>first | exact hf | (simp [bA]at hf)
theorem bF{A:VA}{A':aM} (a:AR c S C A A'){x:Operand}{k:V->Prop}{k':Value->Bool} (h:(uE x).f A k) (hk:∀v w,fC c S C v w->k v->k' w=true):rQ A' x k'=true:=by
 cases x with
 | tmp t=>exact xJ a h hk
 | const v=>
  unfold uE at h;cases e:ofC v with
  | none=>simp only [e]at h
  | some d=>
   simp only [e]at h;obtain⟨hf,r⟩:=aFs (c:=c) (S:=S) (C:=C) e;unfold rQ;simp only [hf];exact hk d v r h
 | global g=>cases h
 | func f=>exact hk _ _ (.func (a':=[]) (d':=[]) rfl rfl (fun k v w e=>by simp at e) (fun k v w e=>by simp at e)) h
theorem UF{A:VA}{A':aM} (a:AR c S C A A'):∀{xs:List Operand} {k:List V->Prop} {k':List Value->Bool},(aCX xs).f A k->(∀vs ws,kE c S C vs ws->k vs->k' ws=true)->LD A' xs k'=true:=by
 intro xs;induction xs with
 | nil=>intro k k' h hk;exact hk [] [] .nil h
 | cons x xs ih=>
  intro k k' h hk;have h:(uE x).f A (fun v=>(aCX xs).f A fun vs=>k (v::vs)):=h;refine bF a h fun v w r h=>?_;exact ih h fun vs ws rs h=>hk (v::vs) (w::ws) (.cons r rs) h
theorem VS.one (s:VS P B Sb c h S){v:V}{w:Value} (r:fC c S C v w) (ho:tO v=true):fR w=true:=by
 cases r<;>first
  | rfl
  | (simp [tO]at ho;done)
  | (rename_i e;obtain⟨b,rfl⟩:=s.Gs _ _ _ e;rfl)
  | (rename_i ht hd;cases hd<;>rfl)
theorem VS.Oe (s:VS P B Sb c h S){vs:List V}{ws:List Value} (r:kE c S C vs ws) (ho:vs.all tO=true):ws.all fR=true:=by
 rw [dL]at ho ⊢;intro w hw;obtain⟨k,hk⟩:=IF hw;have hl:=r.len;have hkl:=(cZ.1 hk).1;exact s.one (r.rd k vs[k] w (aS (by omega)) hk) (ho _ (sW (by omega)))
theorem Of (O:Tag):∀(l:List Dt) (o k:Nat),(Tl O o l)[k]? =(l[k]?).map fun d=>T (.sub O (o+k)) d:=by
 intro l;induction l with
 | nil=>intro o k;simp [Tl]
 | cons d l ih=>
  intro o k;cases k with
  | zero=>simp [Tl]
  | succ k=>
   simp only [Tl,KQ,ih];rw [show o+1+k=o+(k+1)by omega]
theorem Fk (O:Tag):∀(l:List Dt) (o:Nat),(Tl O o l).length=l.length:=by
 intro l;induction l with
 | nil=>intro o;rfl
 | cons d l ih=>intro o;simp [Tl,ih]
theorem XM{O:Tag}{cs:List Dt}{b o n cc:Nat}{sp:Option Nat} (ht:JD c S C O (.slice (some ⟨b,o,sp⟩) n cc)) (hd:RY S C (.list cs n) (.slice (some ⟨b,o,sp⟩) n cc)){k m:Nat} (hk:k+m<=cs.length) (hm:0<m):
 ∃ws e ck,S.obj b=some (.cells ws e ck)/\o+k+m<=ws.length/\kE c S C (Tl O k ((cs.drop k).take m)) ((ws.drop (o+k)).take m):=by
 cases hd with
 | emp=>simp at hk;omega
 | row AA hb hC ho hl hn hr=>
  rename_i ws e ck;refine⟨ws,e,ck,ho,by omega,by rw [Fk];simp;omega,fun j v w e1 e2=>?_⟩;rw [Of,kZ]at e1;rw [kZ]at e2;by_cases hj:j<m
  ·rw [if_pos hj,kI]at e1 e2
   cases ed:cs[k+j]? with
   | none=>rw [ed]at e1;cases e1
   | some x=>
    rw [ed]at e1;injection e1 with e1;subst e1;have hw:ws[o+(k+j)]? =some w:=by rw [<-sX];exact e2
    exact aKA (hr (k+j) x w ed hw) (.sub ht hb hC ho hw)
  ·rw [if_neg hj]at e2;cases e2
theorem aBE (s:VS P B Sb c h S){a:V}{w:Value} (r:fC c S (cY B c h) a w){Kv:KV}{K:VK} (k:∀v w,fC c S (cY B c h) v w->Kv v h->K w S=true) (hv:aH a h Kv):rLd w S K=true:=by
 unfold aH at hv;split at hv
 ·rename_i i o
  cases r with
  | ptr hZ=>
   split at hv
   ·rename_i vs t e
    obtain⟨v,ev,hv⟩:=HN hv;obtain⟨b,ws,a1,a2,a3,a4,a5⟩:=s.row i vs t e;rw [hZ]at a1;injection a1 with a1;subst a1;obtain⟨u,eu,ru⟩:=a5.get ev;rw [aEC a4 eu];exact k v u ru hv
   ·cases hv
 ·rename_i O cs o
  cases r with
  | @sS _ _ b o0 n cc _ sp ht hd=>
   obtain⟨x,ex,hv⟩:=HN hv;have hlt:=(cZ.1 ex).1;obtain⟨ws,e,ck,g1,g2,g3⟩:=XM ht hd (k:=o) (m:=1) (by omega) (by omega);have hw:ws[o0+o]? =some (ws[o0+o]'(by omega)):=aS _;rw [aEC g1 hw];refine k _ _ (g3.rd 0 _ _ ?_ ?_) hv
   ·rw [Of,kZ,if_pos (by omega),kI,II,ex];rfl
   ·rw [kZ,if_pos (by omega),kI,II];exact hw
 ·rename_i i n o
  cases r with
  | nZ hGz=>
   split at hv
   ·rename_i vs t m e
    obtain⟨rfl,hv⟩:=hv;obtain⟨v,ev,hv⟩:=HN hv;obtain⟨b,ws,olds,sz,a1,a2,a3,a4,a5,a6⟩:=s.jK i vs t m e;rw [hGz]at a1;injection a1 with a1;injection a1 with a1;injection a1 with a1;injection a1 with a1;subst a1;obtain⟨u,eu,ru⟩:=a5.get ev;rw [aEC a4 eu];exact k v u ru hv
   ·cases hv
 ·cases hv
theorem Uh (s:VS P B Sb c h S){n:Nat} (hn:0<n){a:V}{w:Value} (r:fC c S (cY B c h) a w){Kv:KV}{K:VK} (k:∀v w,fC c S (cY B c h) v w->Kv v h->K w S=true) (hv:iP n a h Kv):aEo n w S K=true:=by
 unfold iP at hv;split at hv
 ·rename_i i o
  cases r with
  | ptr hZ=>
   split at hv
   ·rename_i vs t e
    obtain⟨hl,hv⟩:=hv;obtain⟨b,ws,a1,a2,a3,a4,a5⟩:=s.row i vs t e;rw [hZ]at a1;injection a1 with a1;subst a1;have:=a5.len;rw [Yu a4 (by omega)];exact k _ _ (.agg ((a5.drop o).take n).len ((a5.drop o).take n).rd) hv
   ·cases hv
 ·rename_i O cs o
  cases r with
  | @sS _ _ b o0 m cc _ sp ht hd=>
   obtain⟨hl,hv⟩:=hv;obtain⟨ws,e,ck,g1,g2,g3⟩:=XM ht hd hl hn;rw [Yu g1 g2];exact k _ _ (.agg g3.len g3.rd) hv
 ·rename_i i m o
  cases r with
  | nZ hGz=>
   split at hv
   ·rename_i vs t m' e
    obtain⟨rfl,hl,hv⟩:=hv;obtain⟨b,ws,olds,sz,a1,a2,a3,a4,a5,a6⟩:=s.jK i vs t m' e;rw [hGz]at a1;injection a1 with a1;injection a1 with a1;injection a1 with a1;injection a1 with a1;subst a1;have:=a5.len;rw [Yu a4 (by omega)];exact k _ _ (.agg ((a5.drop o).take n).len ((a5.drop o).take n).rd) hv
   ·cases hv
 ·cases hv
theorem JE (s:VS P B Sb c h S){x:V}{w:Value} (r:fC c S C x w){k:List V->Prop} (hv:yW x k):∃vs ws,kE c S C vs ws/\k vs/\ws.all fR=true/\∀K:List Value->Bool,nW w K=K ws:=by
 unfold yW at hv;split at hv
 ·rename_i cs
  obtain⟨ho,hv⟩:=hv;cases r with
  | agg la ha=>
   rename_i a';have hr:kE c S C cs a':=⟨la,ha⟩;have:=s.Oe hr ho;refine⟨cs,a',hr,hv,this,fun K=>?_⟩;show(match pW fR a' with | true=>K a' | false=>false)=_;rw [jJ,this]
 ·cases hv
 ·rename_i h1 h2
  have ho:tO x=true:=by cases x<;>first | rfl | exact absurd rfl (h1 _) | exact absurd rfl (h2 _)
  have:=s.one r ho;exact⟨[x],[w],.cons r .nil,hv,by simp [this],fun K=>Sy this K⟩
theorem RG (s:VS P B Sb c h S){i o b:Nat}{vs cs:List V}{ws:List Value}{t:TypeId} (e:h i=some (.row vs t)) (hZ:c.Z i=some b) (g:kE c S (cY B c h) cs ws) (hl:o+cs.length<=vs.length){Kv:Hp->Prop}{K:St->Bool} (k:∀h' S',yG (cY B c h) S S' (cY B c h')->VS P B Sb c h' S'->Kv h'->K S'=true) (hv:Kv (aR h i (.row (aG o cs vs) t))):oS S b o ws K=true:=by
 obtain⟨b',us,a1,a2,a3,a4,a5⟩:=s.row i vs t e;rw [hZ]at a1;injection a1 with a1;subst a1;have l1:=a5.len;have l2:=g.len;unfold oS;rw [xD a4];show qA o ws us (fun vs=>pX S b (.cells vs t .exact) K)=true;rw [vM,if_pos (by omega),fZ];obtain⟨s1,s2⟩:=s.setRow e hZ (a5.aG g o);exact k _ _ s2 s1 hv
theorem yZ (s:VS P B Sb c h S){i n o b:Nat}{vs cs:List V}{ws:List Value}{t:TypeId} (e:h i=some (.jK vs t n)) (hGz:c.G i n=some (.slice (some ⟨b,0,some 0⟩) n n)) (g:kE c S (cY B c h) cs ws) (hl:o+cs.length<=vs.length){Kv:Hp->Prop}{K:St->Bool} (k:∀h' S',yG (cY B c h) S S' (cY B c h')->VS P B Sb c h' S'->Kv h'->K S'=true) (hv:Kv (aR h i (.jK (aG o cs vs) t n))):oS S b o ws K=true:=by
 obtain⟨b',us,olds,sz,a1,a2,a3,a4,a5,a6⟩:=s.jK i vs t n e;rw [hGz]at a1;injection a1 with a1;injection a1 with a1;injection a1 with a1;injection a1 with a1;subst a1;have l1:=a5.len;have l2:=g.len;have hsl:(aG o cs vs).length=vs.length:=by unfold aG;simp;omega
 unfold oS;rw [xD a4]
 show(FB o us fun l=>match WB ws l with
  | true=>K S
  | false=>qA o ws us fun vs=>Ii olds S.h fun h=>OJ (.cells vs t (.grown [])) (Nat.succ b) h b fun h=>K ⟨h,S.n⟩)=true
 rw [wW,if_pos (by omega)];cases hs:WB ws (us.drop o)with
 | true=>
  obtain⟨_,q⟩:=Jb hs
  have Br:aG o ws us=us:=by
   apply uH;intro j;rw [fL _ _ _ (by omega)];split
   ·rename_i hj
    have:=q (j-o) _ (aS (by omega));rw [kI,show o+(j-o)=j by omega]at this;rw [this,aS (by omega)]
   ·rfl
  obtain⟨s1,s2⟩:=s.aFq (vs':=aG o cs vs) (ws':=us) (olds:=olds) (ol:=olds) (kl:=[]) (fun _ h=>h) (fun _ h=>by cases h) e hGz a4 hsl (by have:=a5.aG g o;rwa [Br]at this) (S':=S) rfl (fun j=>by
   by_cases hj:j=b
   ·rw [if_pos hj,hj,a4]
   ·rw [if_neg hj,if_neg (by simp)])
  exact k _ _ s2 s1 hv
 | false=>
  show(qA o ws us fun vs=>Ii olds S.h fun h=>OJ (.cells vs t (.grown [])) (Nat.succ b) h b fun h=>K ⟨h,S.n⟩)=true;rw [vM,if_pos (by omega),Qv,IR]
  obtain⟨s1,s2⟩:=s.aFq (vs':=aG o cs vs) (ws':=aG o ws us) (olds:=olds) (ol:=[]) (kl:=olds) (fun _ h=>by cases h) (fun _ h=>h) e hGz a4 hsl (a5.aG g o) (S':=⟨Tr.CA (gV.cells (aG o ws us) t (CK.grown [])) b.succ (olds.foldl (fun h i=>h.put i gV.dead) S.h) b,S.n⟩) rfl (fun j=>by
   show Tr.get (Tr.CA _ (b+1) _ b) j=_;rw [Dh _ _ _ _ _ (vI b),Qw];rfl)
  exact k _ _ s2 s1 hv
theorem aHO (s:VS P B Sb c h S){n:Nat}{a x:V}{w y:Value} (r:fC c S (cY B c h) a w) (q:fC c S (cY B c h) x y){Kv:Hp->Prop}{K:St->Bool} (k:∀h' S',yG (cY B c h) S S' (cY B c h')->VS P B Sb c h' S'->Kv h'->K S'=true) (hv:sU n a x h Kv):rSt n w y S K=true:=by
 unfold sU at hv;split at hv
 ·rename_i i o
  cases r with
  | @ptr _ _ b hZ=>
   split at hv
   ·rename_i vs t e
    obtain⟨cs,ws,g1,⟨g2,g3,g4⟩,g5,g6⟩:=JE s q hv;have l2:=g1.len;show nW y (fun cs=>zZ cs fun m=>match Nat.beq m n with | true=>oS S b o cs K | false=>false)=true;rw [g6,jT,show Nat.beq ws.length n=true by rw [<-l2,g2];exact IJ n];exact RG s e hZ g1 (by omega) k g4
   ·cases hv
 ·rename_i i q' o
  cases r with
  | @nZ _ _ _ b hGz=>
   split at hv
   ·rename_i vs t m e
    obtain⟨rfl,hv⟩:=hv;obtain⟨cs,ws,g1,⟨g2,g3,g4⟩,g5,g6⟩:=JE s q hv;have l2:=g1.len;show nW y (fun cs=>zZ cs fun m=>match Nat.beq m n with | true=>oS S b o cs K | false=>false)=true;rw [g6,jT,show Nat.beq ws.length n=true by rw [<-l2,g2];exact IJ n];exact yZ s e hGz g1 (by omega) k g4
   ·cases hv
 ·cases hv
end
section
variable{P:Program}{B:Nat->Prop}{Sb:St}{c c' d:Cx}{h h':Hp}{S S':St}{C C':Nat->Prop}
def KR (P:Program) (B:Nat->Prop) (Sb:St) (c:Cx) (h:Hp) (S:St) (Kv:KV) (K:VK):Prop:=
 ∀c' h' S' v w,c.le c'->yG (cY B c h) S S' (cY B c' h')->VS P B Sb c' h' S'->fC c' S' (cY B c' h') v w->Kv v h'->K w S'=true
theorem KR.here{Kv:KV}{K:VK} (k:KR P B Sb c h S Kv K) (s:VS P B Sb c h S){v:V}{w:Value} (r:fC c S (cY B c h) v w) (hk:Kv v h):K w S=true:=k c h S v w (.refl c) (.refl _ S) s r hk
theorem UG (s:VS P B Sb c h S){vs:List V}{ws:List Value}{t:TypeId} (hv:kE c S (cY B c h) vs ws){Kn:Nat->Hp->Prop} (hn:aE6 vs t h Kn):
 ∃c' h' i,c.le c'/\yG (cY B c h) S (S.new (.cells ws t .exact)) (cY B c' h')/\VS P B Sb c' h' (S.new (.cells ws t .exact))/\c'.Z i=some S.n/\Kn i h':=by
 obtain⟨i,e1,e2,e3⟩:=s.fresh;obtain⟨a1,a2,a3,a4⟩:=s.newRow e1 e2 e3 t hv;exact⟨_,_,i,a2,a3,a1,a4,hn i e1⟩
theorem Zy (s:VS P B Sb c h S){z:List Value}{t:TypeId}{Kv:KV}{K:VK} (k:KR P B Sb c h S Kv K) (hv:gZ z t h Kv):WU z t S K=true:=by
 unfold gZ xF at hv;split at hv
 ·rename_i l e
  obtain⟨c',h',i,a1,a2,a3,a4,a5⟩:=UG s (OB e) hv;rw [aEE];exact k c' h' _ _ _ a1 a2 a3 (.ptr a4) a5
 ·cases hv
theorem aFt (s:VS P B Sb c h S){t:TypeId}{x:V}{w:Value} (r:fC c S (cY B c h) x w){Kv:KV}{K:VK} (k:KR P B Sb c h S Kv K) (hv:tW t x h Kv):Qf t w S K=true:=by
 obtain⟨cs,ws,g1,g2,g3,g4⟩:=JE s r hv;obtain⟨c',h',i,a1,a2,a3,a4,a5⟩:=UG s g1 g2;unfold Qf;rw [g4,gG];exact k c' h' _ _ _ a1 a2 a3 (.ptr a4) a5
def PsR (c:Cx) (S:St) (C:Nat->Prop):List (Nat×Nat×V)->List (Nat×Nat×Value)->Prop
 | [],[]=>True
 | (o,n,v)::l,(o',n',w)::m=>o=o'/\n=n'/\fC c S C v w/\PsR c S C l m
 | _,_=>False
theorem Ju (s:VS P B Sb c h S):∀{ps:List (Nat×Nat×V)} {Hc:List (Nat×Nat×Value)} {cs:List V} {cs':List Value} {k:List V->Prop} {k':List Value->Bool},PsR c S C ps Hc->kE c S C cs cs'->uT ps cs k->(∀cs cs',kE c S C cs cs'->k cs->k' cs'=true)->MK Hc cs' k'=true:=by
 intro ps;induction ps with
 | nil=>
  intro Hc cs cs' k k' hp hc hv hk
  match Hc,hp with
  | [],_=>exact hk cs cs' hc hv
 | cons p ps ih=>
  intro Hc cs cs' k k' hp hc hv hk;obtain⟨o,n,v⟩:=p
  match Hc,hp with
  | (o',n',w)::Hc,hp=>
   obtain⟨rfl,rfl,r,hp⟩:=hp;obtain⟨vs,ws,g1,⟨g2,g3,g4⟩,g5,g6⟩:=JE s r hv;have l1:=g1.len;have l2:=hc.len;show nW w (fun new=>zZ new fun m=>match Nat.beq m n with | true=>qA o new cs' (fun cs=>MK Hc cs k') | false=>false)=true;rw [g6,jT,show Nat.beq ws.length n=true by rw [<-l1,g2];exact IJ n];show qA o ws cs' (fun cs=>MK Hc cs k')=true;rw [vM,if_pos (by omega)];exact ih hp (hc.aG g1 o) g4 hk
theorem RH{A:VA}{A':aM} (a:AR c S C A A'){place:Nat->Option (Nat×Nat)}:∀{ps:List (Nat×Operand)} {k:List (Nat×Nat×V)->Prop} {k':List (Nat×Nat×Value)->Bool},(XL place ps).f A k->(∀l l',PsR c S C l l'->k l->k' l'=true)->(DY place ps).f A' k'=true:=by
 intro ps;induction ps with
 | nil=>intro k k' hv hk;exact hk [] [] trivial hv
 | cons p ps ih=>
  intro k k' hv hk
  have e1:XL place (p::ps)=match place p.1 with
   | some (off,size)=>⟨fun A k=>(uE p.2).f A fun v=>(XL place ps).f A fun l=>k ((off,size,v)::l)⟩
   | none=>⟨fun _ _=>False⟩:=rfl
  have e2:DY place (p::ps)=match place p.1 with
   | some (off,size)=>⟨fun A k=>(vC p.2).f A fun v=>(DY place ps).f A fun l=>k ((off,size,v)::l)⟩
   | none=>⟨fun _ _=>false⟩:=rfl
  rw [e1]at hv;rw [e2];cases hp:place p.1 with
  | none=>rw [hp]at hv;cases hv
  | some q=>
   obtain⟨off,size⟩:=q;rw [hp]at hv;simp only at hv ⊢;rw [kB];refine bF a hv fun v w r hv=>?_;exact ih hv fun l l' hl h=>hk ((off,size,v)::l) ((off,size,w)::l') ⟨rfl,rfl,r,hl⟩ h
theorem Fl (s:VS P B Sb c h S){z:List Value}{ps:List (Nat×Nat×V)}{Hc:List (Nat×Nat×Value)} (hp:PsR c S C ps Hc){Kv:V->Prop}{K:Value->Bool} (k:∀v w,fC c S C v w->Kv v->K w=true) (hv:iQ z ps Kv):Yr z Hc K=true:=by
 unfold iQ xF at hv;split at hv
 ·rename_i l e
  exact Ju s hp (OB e) hv fun cs cs' r h=>k _ _ (.agg r.len r.rd) h
 ·cases hv
theorem Ui (s:VS P B Sb c h S){el n:Nat}{z:List Value}{ps:List (Nat×Nat×V)}{Hc:List (Nat×Nat×Value)} (hp:PsR c S (cY B c h) ps Hc){Kv:KV}{K:VK} (k:KR P B Sb c h S Kv K) (hv:cQ el n z ps h Kv):Mx el n z Hc S K=true:=by
 unfold cQ xF at hv;split at hv
 ·rename_i l e
  unfold Mx;rw [zP];refine Ju s hp ((OB e).flatten n) hv fun cs cs' r hv=>?_;obtain⟨c',h',i,a1,a2,a3,a4,a5⟩:=UG s r hv;rw [gG];exact k c' h' _ _ _ a1 a2 a3 (.own a4) a5
 ·cases hv
theorem aFu{off:Nat}{x:V}{w:Value} (r:fC c S C x w){Kv:V->Prop}{K:Value->Bool} (k:∀v w,fC c S C v w->Kv v->K w=true) (hv:aL off x Kv):aEp off w K=true:=by
 unfold aL at hv;split at hv
 ·cases r with | ptr e=>rw [Yt];exact k _ _ (.ptr e) hv
 ·cases r with | sS ht hd=>rw [Yt,sX];exact k _ _ (.sS ht hd) hv
 ·cases r with | nZ e=>rw [Yt];exact k _ _ (.nZ e) hv
 ·cases hv
theorem Zz{off:Nat}{x:V}{w:Value} (r:fC c S C x w){Kv:V->Prop}{K:Value->Bool} (k:∀v w,fC c S C v w->Kv v->K w=true) (hv:Zp off x Kv):Em off w K=true:=by
 unfold Zp at hv;split at hv
 ·cases r with
  | agg la ha=>
   obtain⟨v,e,hv⟩:=HN hv;obtain⟨u,eu,ru⟩:=kE.get ⟨la,ha⟩ e;rw [aED eu];exact k v u ru hv
 ·cases hv
theorem Uj{off n:Nat}{x:V}{w:Value} (r:fC c S C x w){Kv:V->Prop}{K:Value->Bool} (k:∀v w,fC c S C v w->Kv v->K w=true) (hv:Nl off n x Kv):TI off n w K=true:=by
 unfold Nl at hv;split at hv
 ·cases r with
  | agg la ha=>
   obtain⟨hl,hv⟩:=hv;have hr:kE c S C _ _:=⟨la,ha⟩;rw [aCv (by omega)];exact k _ _ (.agg ((hr.drop off).take n).len ((hr.drop off).take n).rd) hv
 ·cases hv
theorem Og{t:TypeId}{len n:Nat} (h:aHF P t=some (len,n)){b o i:Nat}{kk:IntKind} (hi:i<len) (K:Value->Bool):rF P t (.pointer (some ⟨b,o,none⟩)) (.int kk (.ofNat i)) K=K (.pointer (some ⟨b,o+i*n,none⟩)):=by
 have hlt:Nat.blt i len=true:=iW hi;unfold aHF at h;unfold rF;cases hu:P.underlying t with
 | none=>rw [hu]at h;cases h
 | some td=>
  rw [hu]at h;cases td with
  | array l e=>
   dsimp only at h;cases hs:bP P e with
   | none=>rw [hs]at h;cases h
   | some m=>
    rw [hs]at h;injection h with h;injection h with h1 h2;subst h1 h2;simp only [hs,hlt,aY]
  | _=>cases h
theorem aCZ{t:TypeId}{len size:Nat} (ha:aHF P t=some (len,size)){x ix:V}{w iw:Value} (r:fC c S C x w) (ri:fC c S C ix iw){Kv:V->Prop}{K:Value->Bool} (k:∀v w,fC c S C v w->Kv v->K w=true) (hv:aBw len size x ix Kv):rF P t w iw K=true:=by
 unfold aBw at hv;split at hv
 ·rename_i j i
  cases ri;split at hv
  ·obtain⟨hi,hv⟩:=hv
   cases r with
   | ptr e=>rw [Og ha hi];exact k _ _ (.ptr e) hv
  ·cases hv
 ·cases hv
theorem aFv (s:VS P B Sb c h S){size:Nat}{x ix:V}{w iw:Value} (r:fC c S C x w) (ri:fC c S C ix iw){Kv:V->Prop}{K:Value->Bool} (k:∀v w,fC c S C v w->Kv v->K w=true) (hv:kX size x ix Kv):aHi size w iw K=true:=by
 unfold kX at hv;split at hv
 ·rename_i j i
  cases ri;split at hv
  ·obtain⟨hi,hv⟩:=hv
   cases r with
   | list ht hd=>
    cases hd with
    | nil=>omega
    | emp=>omega
    | @row b0 o0 _ cc sp us e0 ck0 _ AA hb hC ho hl hn hr=>
     have hlt:Nat.blt i _=true:=iW hi;have:=k _ _ (.sS ht (.row AA hb hC ho hl hn hr)) hv
     match sp,AA with
     | none,_=>show(match Nat.blt i _ with | true=>_ | false=>false)=true;rw [hlt,aY];exact this
     | some 0,_=>show(match Nat.blt i _ with | true=>_ | false=>false)=true;rw [hlt,aY];exact this
  ·obtain⟨hi,hv⟩:=hv
   cases r with
   | own e=>
    have hlt:Nat.blt i _=true:=iW hi;show(match Nat.blt i _ with | true=>_ | false=>false)=true;rw [hlt,aY];exact k _ _ (.ptr e) hv
  ·obtain⟨hi,hv⟩:=hv
   cases r with
   | acc e=>
    obtain⟨b,rfl⟩:=s.Gs _ _ _ e;have hlt:Nat.blt i _=true:=iW hi;show(match Nat.blt i _ with | true=>_ | false=>false)=true;rw [hlt,aY,fK];exact k _ _ (.nZ e) hv
  ·obtain⟨hi,hv⟩:=hv
   cases r with
   | pO e=>
    have hlt:Nat.blt i _=true:=iW hi;show(match Nat.blt i _ with | true=>_ | false=>false)=true;rw [hlt,aY];exact k _ _ (.nZ e) hv
  ·cases hv
 ·cases hv
theorem aAa{x ix:V}{w iw:Value} (r:fC c S C x w) (ri:fC c S C ix iw){Kv:V->Prop}{K:Value->Bool} (k:∀v w,fC c S C v w->Kv v->K w=true) (hv:Zq x ix Kv):Mr w iw K=true:=by
 unfold Zq at hv;split at hv
 ·cases ri
  split at hv
  ·rename_i l
   cases r;obtain⟨b,e,hv⟩:=HN hv;show OK l _ (fun b:UInt8=>cG b.toNat fun n=>K (.int .u8 (.ofNat n)))=true;rw [My e,aY];exact k _ _ .int hv
  ·cases hv
 ·cases hv
theorem aFw{i:Nat}{x:V}{w:Value} (r:fC c S C x w){Kv:V->Prop}{K:Value->Bool} (k:∀v w,fC c S C v w->Kv v->K w=true) (hv:pY i x Kv):aEw i w K=true:=by
 unfold pY at hv;split at hv
 ·cases r with
  | tuple la ha=>
   obtain⟨v,e,hv⟩:=HN hv;obtain⟨u,eu,ru⟩:=kE.get ⟨la,ha⟩ e;rw [aJ7,My eu];exact k v u ru hv
 ·cases hv
theorem aFx{kd:IntKind}{x:V}{w:Value} (r:fC c S C x w){Kv:V->Prop}{K:Value->Bool} (k:∀v w,fC c S C v w->Kv v->K w=true) (hv:GK kd x Kv):aEv kd w K=true:=by
 unfold GK at hv;split at hv
 ·cases r;rw [aJ8];exact k _ _ .int hv
 ·cases hv
theorem aC0 (s:VS P B Sb c h S){x:V}{w:Value} (r:fC c S C x w){Kv:V->Prop}{K:Value->Bool} (k:∀v w,fC c S C v w->Kv v->K w=true) (hv:dJ x Kv):aBe w K=true:=by
 unfold dJ at hv;split at hv
 ·cases r with
  | list ht hd=>cases hd<;>exact k _ _ .int hv
 ·cases r;exact k _ _ .int hv
 ·cases r with
  | acc e=>obtain⟨b,rfl⟩:=s.Gs _ _ _ e;exact k _ _ .int hv
 ·cases r;exact k _ _ .int hv
 ·cases r;exact k _ _ .int hv
 ·cases r;exact k _ _ .int hv
 ·cases hv
theorem aC1{x:V}{w:Value} (r:fC c S C x w){Kv:V->Prop}{K:Value->Bool} (k:∀v w,fC c S C v w->Kv v->K w=true) (hv:uD x Kv):Su w K=true:=by
 unfold uD at hv;split at hv
 ·cases r;rw [aHn];exact k _ _ .int hv
 ·cases hv
theorem Src.aAb{i o n cc size:Nat}{sp:Option Nat} (AA:Cr sp=true){vs:List Value}{e:TypeId}{ck:CK} (ho:S.obj i=some (.cells vs e ck)) (hn:o+n*size<=vs.length) (h1:∀v∈(vs.drop o).take (n*size),fR v=true):Src S size (.slice (some ⟨i,o,sp⟩) n cc) n ((vs.drop o).take (n*size)):=by
 refine⟨fun k=>rfl,fun k hz=>?_,h1⟩;obtain⟨m,rfl⟩:=eY hz
 match sp,AA with
 | none,_=>show BS S i o ((m+1)*size) k=_;rw [CM ho hn]
 | some 0,_=>show BS S i o ((m+1)*size) k=_;rw [CM ho hn]
theorem Uk (s:VS P B Sb c h S){size:Nat} (Pw:0<size){x:V}{w:Value} (r:fC c S (cY B c h) x w){kv:Nat->List V->Prop} (hv:HJ size x h kv):∃n vs ws,kv n vs/\kE c S (cY B c h) vs ws/\vs.length=n*size/\(∀k,GS w k=k n)/\(vs.all tO=true->Src S size w n ws):=by
 unfold HJ at hv;split at hv
 ·cases r
  exact⟨0,[],[],hv,.nil,by simp,fun k=>rfl,fun _=>⟨fun k=>rfl,fun k hz=>absurd rfl hz,fun v hv=>by cases hv⟩⟩
 ·rename_i O cs n
  obtain⟨hl,hv⟩:=hv;cases r with
  | list ht hd=>
   have hlen:∀k,GS w k=k n:=fun k=>by cases hd<;>rfl
   rcases IG n with hz | hz
   ·subst hz
    refine⟨0,_,[],hv,?_,by simp [Fk],hlen,fun _=>⟨hlen,fun k hz=>absurd rfl hz,fun v hv=>by cases hv⟩⟩;rw [GG,List.take_zero];exact .nil
   ·cases hd with
    | nil=>omega
    | emp=>omega
    | @row b o _ cc sp vs e ck _ AA hb hC ho Gz hn hr=>
     have QN:0<n*size:=Nat.mul_pos hz Pw;obtain⟨us,e',ck',g1,g2,g3⟩:=XM ht (.row AA hb hC ho Gz hn hr) (k:=0) (m:=n*size) (by omega) QN;rw [ho]at g1;injection g1 with g1;injection g1 with g1;subst g1;rw [DE,II]at g3;refine⟨n,_,_,hv,g3,by rw [Fk,iX];omega,hlen,fun h1=>Src.aAb AA ho (by omega) fun v hv=>?_⟩;exact dL.1 (s.Oe g3 h1) v hv
 ·rename_i i o n cc
  cases r with
  | own hZ=>
   split at hv
   ·rename_i vs t e
    obtain⟨hl,hv⟩:=hv;obtain⟨b,ws,a1,a2,a3,a4,a5⟩:=s.row i vs t e;rw [hZ]at a1;injection a1 with a1;subst a1;have l:=a5.len;have hr:=(a5.drop o).take (n*size);refine⟨n,_,_,hv,hr,by rw [iX,mO];omega,fun k=>rfl,fun h1=>Src.row a4 (by omega) fun v hv=>dL.1 (s.Oe hr h1) v hv⟩
   ·cases hv
 ·rename_i i n
  cases r with
  | acc hGz=>
   split at hv
   ·rename_i vs t m e
    obtain⟨rfl,hl,hv⟩:=hv;obtain⟨b,ws,olds,sz,a1,a2,a3,a4,a5,a6⟩:=s.jK i vs t m e;rw [hGz]at a1;injection a1 with a1;subst a1;have l:=a5.len;refine⟨m,vs,ws,hv,a5,hl,fun k=>rfl,fun h1=>?_⟩;have:=Src.aAb (n:=m) (cc:=m) (size:=size) (o:=0) (sp:=some 0) rfl a4 (by omega) (fun v hv=>dL.1 (s.Oe a5 h1) v (by rw [DE]at hv;exact List.mem_of_mem_take hv))
    rwa [DE,uG (by omega)]at this
   ·cases hv
 ·rename_i i n o q cc
  cases r with
  | pO hGz=>
   split at hv
   ·rename_i vs t m e
    obtain⟨rfl,hl,hv⟩:=hv;obtain⟨b,ws,olds,sz,a1,a2,a3,a4,a5,a6⟩:=s.jK i vs t m e;rw [hGz]at a1;injection a1 with a1;injection a1 with a1;injection a1 with a1;injection a1 with a1;subst a1;have l:=a5.len;have hr:=(a5.drop o).take (q*size);refine⟨q,_,_,hv,hr,by rw [iX,mO];omega,fun k=>rfl,fun h1=>Src.aAb (n:=q) (cc:=cc) (size:=size) (o:=o) (sp:=some 0) rfl a4 (by omega) fun v hv=>dL.1 (s.Oe hr h1) v hv⟩
   ·cases hv
 ·cases r
  exact⟨0,[],[],hv,.nil,by simp,fun k=>rfl,fun _=>⟨fun k=>rfl,fun k hz=>absurd rfl hz,fun v hv=>by cases hv⟩⟩
 ·rename_i l
  cases r;obtain⟨rfl,hv⟩:=hv;have hx:=Src.text S l;refine⟨l.length,_,Na l,hv,⟨by simp [Na],fun k v w e1 e2=>?_⟩,by simp,hx.len,fun _=>hx⟩;unfold Na at e2;rw [lA]at e1 e2;cases e:l[k]? with
  | none=>rw [e]at e1;cases e1
  | some b=>rw [e]at e1 e2;injection e1 with e1;injection e2 with e2;subst e1 e2;exact .int
 ·cases hv
theorem MZ (s:VS P B Sb c h S){el size bytes:Nat} (Pw:0<size) (hsz:bP P el=some size){y x:V}{w u:Value} (r:fC c S (cY B c h) y w) (q:fC c S (cY B c h) x u){Kv:KV}{K:VK} (k:KR P B Sb c h S Kv K) (hv:sE el size bytes y x h Kv):Sv P el size bytes w u S K=true:=by
 obtain⟨m,vs,ws,hv,hr,hl,hlen,Hr⟩:=Uk s Pw q hv;cases m with
 | zero=>
  have Wk:∀b n cc,w= .slice b n cc->n<=cc->Kv y h->Sv P el size bytes w u S K=true:=fun b n cc e hn hk=>by
   have hw:=k.here s r hk;subst e;show GS u _=true;rw [hlen];show(match Nat.ble n cc with | true=>K (.slice b n cc) S | false=>false)=true;rw [show Nat.ble n cc=true from iW hn];exact hw
  simp only at hv;split at hv
  ·cases r;exact Wk _ _ _ rfl (bN _) hv
  ·cases r with
   | acc e=>obtain⟨b,rfl⟩:=s.Gs _ _ _ e;exact Wk _ _ _ rfl (bN _) hv
  ·cases r;exact Wk _ _ _ rfl hv.1 hv.2
  ·cases r with
   | list ht hd=>
    cases hd with
    | nil=>exact Wk _ _ _ rfl (bN _) hv
    | emp=>exact Wk _ _ _ rfl (bN _) hv
    | row _ _ _ _ _ hn _=>exact Wk _ _ _ rfl hn hv
  ·cases r with
   | pO e=>exact Wk _ _ _ rfl hv.1 hv.2
  ·cases hv
 | succ m=>
  obtain⟨h1,hv⟩:=hv;have hx:=Hr h1;split at hv
  ·obtain⟨hb,hv⟩:=hv
   cases r;rw [aEF hx (by omega) hb];obtain⟨i,e1,e2,e3⟩:=s.fresh;obtain⟨a1,a2,a3,a4⟩:=s.Zx e1 e2 e3 hsz hl hr;exact k _ _ _ _ _ a2 a3 a1 (.acc a4) (hv i e1)
  ·rename_i i n hv0
   cases ei:h i with
   | none=>simp only [ei]at hv
   | some ob=>
   cases ob with
   | row us t=>simp only [ei]at hv
   | map es=>simp only [ei]at hv
   | TW=>simp only [ei]at hv
   | iter=>simp only [ei]at hv
   | loop=>simp only [ei]at hv
   | jK us t n'=>
    simp only [ei]at hv;obtain⟨hn',ht',Wo,hb,hv⟩:=hv;subst hn' ht';have e:=ei;obtain⟨b,ws2,olds,sz,a1,a2,a3,a4,a5,a6,a7,a8⟩:=s.jK i us _ _ e;cases r with
    | acc hGz=>
     rw [a1]at hGz;injection hGz with hGz;subst hGz;have l2:=a5.len;rw [Sz hx (by omega) hb a4 (by omega) hsz];obtain⟨b1,b2,b3,b4⟩:=s.aBD e a1 a4 hsz hl (by omega) Wo a5 hr;exact k _ _ _ _ _ b2 b3 b1 (.acc b4) hv
  ·rename_i i o n cc hv0
   cases ei:h i with
   | none=>simp only [ei]at hv
   | some ob=>
   cases ob with
   | jK us t n'=>simp only [ei]at hv
   | map es=>simp only [ei]at hv
   | TW=>simp only [ei]at hv
   | iter=>simp only [ei]at hv
   | loop=>simp only [ei]at hv
   | row us t=>
    simp only [ei]at hv;obtain⟨hb,aPp,JT,Rg⟩:=hv;obtain⟨b,ws2,a1,a2,a3,a4,a5⟩:=s.row i us t ei;have l2:=a5.len;cases r with
    | own hZ=>
     rw [a1]at hZ;injection hZ with hZ;subst hZ;show GS u _=true;rw [hx.len];show DF S size (m+1) u _=true;rw [hx.first _ (by omega)];simp only [aY];rw [show BR (n+(m+1)) bytes=true from LC hb];by_cases hc:n+(m+1)<=cc
     ·rw [show Nat.ble (n+(m+1)) cc=true from iW hc]
      obtain⟨KF,hv⟩:=JT hc;have DI:pW fR ws=true:=by rw [jJ];exact s.Oe hr h1
      show LH size ws (some ⟨b,o,none⟩) n cc (n+(m+1)) S K=true;unfold LH;simp only [show Cr none=true from rfl,DI];show cG (o+n*size) (fun at_=>oS S b at_ ws fun S=>K (.slice (some ⟨b,o,none⟩) (n+(m+1)) cc) S)=true;rw [aY];show oS S b (o+n*size) ws _=true;unfold oS;rw [xD a4];show qA (o+n*size) ws ws2 (fun vs=>pX S b (.cells vs t .exact) fun S=>K (.slice (some ⟨b,o,none⟩) (n+(m+1)) cc) S)=true;have l3:=hr.len;rw [vM,if_pos (by omega),fZ];obtain⟨s1,s2⟩:=s.setRow ei a1 (a5.aG hr (o+n*size));exact k c _ _ _ _ (.refl c) s2 s1 (.own a1) hv
     ·have:Nat.ble (n+(m+1)) cc=false:=by
       cases hq:Nat.ble (n+(m+1)) cc with
       | false=>rfl
       | true=>exact absurd (bE hq) hc
      rw [this];have hv:=Rg (by omega);show SC P el size ws (some ⟨b,o,none⟩) n (n+(m+1)) S K=true;show BS S b o (n*size) (fun old=>JS el old ws (n+(m+1)) none S K)=true;rw [CM a4 (by omega)];unfold JS;rw [kL];simp only [gG];obtain⟨j,e1,e2,e3⟩:=s.fresh;have hr2:=((a5.drop o).take (n*size)).app hr
      have hn2:((us.drop o).take (n*size)++vs).length=(n+(m+1))*size:=by
       rw [bW,iX,mO,hl,kJ n,Nat.min_eq_left (by omega)]
      obtain⟨b1,b2,b3,b4⟩:=s.Zx e1 e2 e3 hsz hn2 hr2;exact k _ _ _ _ _ b2 b3 b1 (.acc b4) (hv j e1)
  ·rename_i i q o n cc hv0
   cases ei:h i with
   | none=>simp only [ei]at hv
   | some ob=>
   cases ob with
   | row us t=>simp only [ei]at hv
   | map es=>simp only [ei]at hv
   | TW=>simp only [ei]at hv
   | iter=>simp only [ei]at hv
   | loop=>simp only [ei]at hv
   | jK us t q'=>
    simp only [ei]at hv;obtain⟨hq',ht',hb,JT,Rg⟩:=hv;subst hq' ht';cases r with
    | @pO _ _ _ _ _ b hGz=>
     by_cases hc:n+(m+1)<=cc
     ·obtain⟨KF,hv⟩:=JT hc
      show GS u _=true;rw [hx.len];show DF S size (m+1) u _=true;rw [hx.first _ (by omega)];simp only [aY];rw [show BR (n+(m+1)) bytes=true from LC hb,show Nat.ble (n+(m+1)) cc=true from iW hc];have DI:pW fR ws=true:=by rw [jJ];exact s.Oe hr h1
      show LH size ws (some ⟨b,o,some 0⟩) n cc (n+(m+1)) S K=true;unfold LH;simp only [show Cr (some 0)=true from rfl,DI];show cG (o+n*size) (fun at_=>oS S b at_ ws fun S=>K (.slice (some ⟨b,o,some 0⟩) (n+(m+1)) cc) S)=true;rw [aY];exact yZ s ei hGz hr KF (fun h' S' f s' CC=>k c h' S' _ _ (.refl c) f s' (.pO hGz) CC) hv
     ·obtain⟨ho,hn,hcq,Wo,hv⟩:=Rg (by omega)
      subst ho hn hcq;have e:=ei;obtain⟨b2,ws2,olds,sz,a1,a2,a3,a4,a5,a6,a7,a8⟩:=s.jK i us _ _ e;rw [a1]at hGz;injection hGz with hGz;injection hGz with hGz;injection hGz with hGz;injection hGz with hGz;subst hGz;have l2:=a5.len;rw [Sz hx (by omega) hb a4 (by omega) hsz];obtain⟨b1,b2',b3,b4⟩:=s.aBD e a1 a4 hsz hl (by omega) Wo a5 hr;exact k _ _ _ _ _ b2' b3 b1 (.acc b4) hv
  ·cases hv
theorem aFy{x:V}{w:Value} (r:fC c S C x w){Kv:V->Prop}{K:Value->Bool} (k:∀v w,fC c S C v w->Kv v->K w=true) (hv:cP P x Kv):aHk P w K=true:=by
 unfold cP at hv;split at hv
 ·cases r with | ptr e=>exact k _ _ (.ptr e) hv
 ·cases r with | sS ht hd=>exact k _ _ (.sS ht hd) hv
 ·cases r with | nZ e=>exact k _ _ (.nZ e) hv
 ·cases r with | func a b e f=>exact k _ _ (.func a b e f) hv
 ·cases r with | iface e=>exact k _ _ (.iface e) hv
 ·split at hv
  ·rename_i s v t w'
   split at hv
   ·rename_i g hg
    cases r with
    | DO r=>
     cases r with
     | iface r=>
      show(match DG P t s with | some _=>_ | none=>false)=true;rw [hg];exact k _ _ (.DO (.iface r)) hv
   ·cases hv
  ·cases hv
 ·cases hv
theorem aOV (x y:Int):(x==y)=decide (x=y):=by
 by_cases e:x=y
 ·subst e;simp
 ·rw [bM e];simpa using e
inductive NR:NK->Bool->Value->Prop
 | p0 {a:Addr}:NR .ptr false (.pointer (some a))
 | p1:NR .ptr true (.pointer none)
 | s0 {a:Addr} {n m:Nat}:NR .slice false (.slice (some a) n m)
 | s1 {n m:Nat}:NR .slice true (.slice none n m)
 | m0 {b:Nat}:NR .map false (.map (some b))
 | m1:NR .map true (.map none)
 | f0 {f:Fn} {a b:Array Value}:NR .func false (.func f a b)
 | f1:NR .func true .nilFunc
 | i0 {t:TypeId} {v:Value}:NR .iface false (.iface t v)
 | i1:NR .iface true .nilIface
theorem Fm (hGz:∀i n w,c.G i n=some w->∃b,w= .slice (some ⟨b,0,some 0⟩) n n){a:V}{u:Value} (r:fC c S C a u){kk:NK}{x:Bool} (hk:TY a=some (kk,x)):NR kk x u:=by
 cases r with
 | @list O cs n w ht hd=>
  cases cs with
  | nil=>cases hk
  | cons d cs=>
   injection hk with hk;injection hk with h1 h2;subst h1 h2;cases hd with
   | row=>exact .s0
 | acc e=>obtain⟨b,rfl⟩:=hGz _ _ _ e;injection hk with hk;injection hk with h1 h2;subst h1 h2;exact .s0
 | _=>first
  | (cases hk;done)
  | (injection hk with hk;injection hk with h1 h2;subst h1 h2;constructor)
theorem aJh{t:TypeId}{kk:NK}{x y:Bool}{u w:Value} (hx:NR kk x u) (hy:NR kk y w) (ho:x=true\/y=true) (hi:x=true->y=true->kk≠ .iface) (ht:PO P t=some kk) (k:Bool->Bool):nX P t u w k=k (x&&y):=by
 unfold PO at ht;cases hx<;>cases hy<;>first | (rcases ho with ho | ho<;>cases ho;done) | (exact absurd rfl (hi rfl rfl)) | (unfold nX;split at ht<;>first | (rename_i hu;simp only [hu];rfl) | (cases ht;done))
theorem Ul{O:Tag}{n:Nat}{u:Value} (r:fC c S C (.list O [] n) u):∃x,NR .slice x u:=by
 cases r with
 | list ht hd=>
  cases hd with
  | nil=>exact⟨true,.s1⟩
  | emp=>exact⟨false,.s0⟩
  | row=>exact⟨false,.s0⟩
theorem aAc{op:BinOp}{t:TypeId}{a b:V}{u w:Value} (r:fC c S C a u) (q:fC c S C b w){Kv:V->Prop}{K:Value->Bool} (k:∀v w,fC c S C v w->Kv v->K w=true) (hv:Zr P op t a b Kv):QH P op t u w K=true:=by
 unfold Zr at hv;split at hv
 ·split at hv
  ·obtain⟨ht,hv⟩:=hv
   obtain⟨x,hx⟩:=Ul r;cases q;have hy:NR .slice true (.slice none 0 0):= .s1;have e:=aJh hx hy (.inr rfl) (fun _ _ h=>by cases h) ht;cases op<;>first | (cases hv;done) | skip
   ·have:QH P .eql t u (.slice none 0 0) K=nX P t u (.slice none 0 0) fun e=>mX e K:=by cases hx<;>rfl
    rw [this,e,pD];cases x with
    | true=>exact k _ _ .bool hv.1
    | false=>exact k _ _ .bool hv.2
   ·have:QH P .neq t u (.slice none 0 0) K=nX P t u (.slice none 0 0) fun e=>mX (!e) K:=by cases hx<;>rfl
    rw [this,e,pD];cases x with
    | true=>exact k _ _ .bool hv.2
    | false=>exact k _ _ .bool hv.1
  ·cases hv
 ·cases hv
theorem aAd{op:BinOp}{t:TypeId}{a b:V}{u w:Value} (hGz:∀i n w,c.G i n=some w->∃b,w= .slice (some ⟨b,0,some 0⟩) n n) (r:fC c S C a u) (q:fC c S C b w){Kv:V->Prop}{K:Value->Bool} (k:∀v w,fC c S C v w->Kv v->K w=true) (hv:Fa P op t a b Kv):QH P op t u w K=true:=by
 unfold Fa at hv;split at hv
 ·rename_i ka x ha
  split at hv
  ·rename_i kb y hb
   obtain⟨rfl,ht,hxy,hi,hv⟩:=hv;have hx:=Fm hGz r ha;have hy:=Fm hGz q hb;have e:=aJh hx hy hxy hi ht;cases op<;>first | (cases hv;done) | skip
   ·have:QH P .eql t u w K=nX P t u w fun e=>mX e K:=by cases hx<;>cases hy<;>rfl
    rw [this,e,pD];exact k _ _ .bool hv
   ·have:QH P .neq t u w K=nX P t u w fun e=>mX (!e) K:=by cases hx<;>cases hy<;>rfl
    rw [this,e,pD];exact k _ _ .bool hv
  ·cases hv
 ·exact aAc r q k hv
theorem aFz{op:BinOp}{t:TypeId}{a b:V}{u w:Value} (hGz:∀i n w,c.G i n=some w->∃b,w= .slice (some ⟨b,0,some 0⟩) n n) (r:fC c S C a u) (q:fC c S C b w){Kv:V->Prop}{K:Value->Bool} (k:∀v w,fC c S C v w->Kv v->K w=true) (hv:aE P op t a b Kv):aEu P op t u w K=true:=by
 rw [IY];unfold aE at hv;split at hv
 ·rename_i j x
  split at hv
  ·rename_i k' y
   cases r;cases q;cases hs:vF op with
   | true=>
    rw [hs]at hv;obtain⟨hy,hv⟩:=hv;have hlt:Hf y 0=false:=by rw [DN];exact bM (by omega)
    cases op<;>first | cases hs | skip
    ·show QF .shl j x y K=true
     unfold QF;rw [hlt];show GH j (x*2 ^ (min y.toNat j.bits)) K=true;unfold GH;rw [mI];exact k _ _ .int hv
    ·show QF .shr j x y K=true
     unfold QF;rw [hlt];show wP (x.fdiv (2 ^ (min y.toNat j.bits))) (fun n=>K (.int j n))=true;rw [mI];exact k _ _ .int hv
   | false=>
    rw [hs]at hv;obtain⟨rfl,hv⟩:=hv
    have hg:QH P op t (.int j x) (.int j y) K=IL op j x y K:=by
     rw [<-IY];exact aJ9 _ _ _ _ _ _ (by rintro rfl;cases hs) (by rintro rfl;cases hs)
    rw [hg]
    have hint:∀n,Kv (.int j (dW j n))->GH j n K=true:=fun n hv=>by
     unfold GH;rw [mI];exact k _ _ .int hv
    have h0:∀y:Int,y≠0->Au y 0=false:=fun y hy=>by rw [tD];simpa using hy
    cases op<;>first
     | exact hint _ hv
     | (obtain⟨hy,hv⟩:=hv;show(match Au y 0 with | true=>false | false=>_)=true;rw [h0 y hy];first | exact hint _ hv | (show wP _ _=true;rw [mI];exact k _ _ .int hv))
     | (show wP (j.wrap _) (fun n=>K (.int j n))=true;rw [mI];exact k _ _ .int hv)
     | (show mX _ K=true;rw [pD];simp only [tD,DN,aOV];first | exact k _ _ .bool hv | (have e1:(!decide (y<x))=decide (x<=y):=(by by_cases h:y<x;rw [bK h,bM (show ¬x<=y by omega)];rfl;rw [bM h,bK (show x<=y by omega)];rfl);rw [e1];exact k _ _ .bool hv) | (have e1:(!decide (x<y))=decide (y<=x):=(by by_cases h:x<y;rw [bK h,bM (show ¬y<=x by omega)];rfl;rw [bM h,bK (show y<=x by omega)];rfl);rw [e1];exact k _ _ .bool hv))
     | cases hv
     | cases hs
  ·cases hv
 ·rename_i x
  split at hv
  ·rename_i y
   cases r;cases q
   have e8:ZW x y=decide (x=y):=by
    rw [CF];by_cases e:x=y
    ·subst e;simp
    ·rw [bM e];simpa using e
   cases op<;>first
    | (show mX _ K=true;rw [pD];show K (.bool _)=true;first | (rw [e8];exact k _ _ .bool hv) | (rw [aA5];exact k _ _ .bool hv))
    | (exact absurd hv id)
    | (obtain⟨hl,hv⟩:=hv
       show(zZ x fun n=>zZ y fun m=>match Nat.blt (n+m) 9223372036854775808 with | true=>wQ x y fun l=>K (.string ⟨⟨l⟩⟩) | false=>false)=true;rw [jT,jT,show Nat.blt (x.length+y.length) 9223372036854775808=true from iW hl];exact(kL x y _).trans (k _ _ .str hv))
  ·cases hv
 ·rename_i x
  split at hv
  ·rename_i y
   cases r;cases q;obtain⟨ht,hv⟩:=hv;unfold aBy at ht;split at ht
   ·rename_i hu
    have hb:(x==y)=decide (x=y):=by cases x<;>cases y<;>rfl
    cases op<;>first | cases hv | skip
    all_goals
     show nX P t (.bool x) (.bool y) _=true;unfold nX;simp only [hu,nQ,pD,hb];exact k _ _ .bool hv
   ·cases ht
  ·cases hv
 ·exact aAd hGz r q k hv
theorem aHP{op:UnOp}{a:V}{u:Value} (r:fC c S C a u){Kv:V->Prop}{K:Value->Bool} (k:∀v w,fC c S C v w->Kv v->K w=true) (hv:NX op a Kv):unK op u K=true:=by
 unfold NX at hv;split at hv
 ·split at hv
  ·cases r;rw [aHo];exact k _ _ .bool hv
  ·cases hv
 ·split at hv
  ·cases r
   show GH _ _ K=true;unfold GH;rw [mI];exact k _ _ .int hv
  ·cases hv
 ·split at hv
  ·cases r
   unfold unK;simp only;rw [mI];exact k _ _ .int hv
  ·cases hv
 ·cases hv
theorem Um{P:Program}{big:Bool}{ts:List TypeId}{a b:V}{w u:Value} (r:fC c S C a w) (q:fC c S C b u){Kv:V->Prop}{K:VK} (k:∀v w,fC c S C v w->Kv v->K w S=true) (hv:aKu big a b Kv):mY P (match big with | true=> .max | false=> .min) ts [w,u] S K=true:=by
 cases r<;>try (cases hv;done)
 cases q<;>try (cases hv;done)
 rename_i j x j' y;have hw:=k _ _ .int hv;cases big with
 | true=>
  show PB true [.int j' y] j x (fun v=>K v S)=true;show dF (Hf x y) (K (.int j y) S) (K (.int j x) S)=true;rw [DN];simp only [Int.max_def]at hw;by_cases h:x<y
  ·rw [if_pos (by omega)]at hw;simp only [bK h];exact hw
  ·by_cases h2:x<=y
   ·rw [if_pos h2]at hw
    have:x=y:=by omega
    subst this;simp only [bM h];exact hw
   ·rw [if_neg h2]at hw
    simp only [bM h];exact hw
 | false=>
  show PB false [.int j' y] j x (fun v=>K v S)=true;show dF (Hf y x) (K (.int j y) S) (K (.int j x) S)=true;rw [DN];simp only [Int.min_def]at hw;by_cases h:y<x
  ·rw [if_neg (by omega)]at hw;simp only [bK h];exact hw
  ·rw [if_pos (by omega)]at hw;simp only [bM h];exact hw
inductive OR' (c:Cx) (S:St) (C:Nat->Prop):Option V->Option Value->Prop
 | none:OR' c S C none none
 | some {v:V} {w:Value} (h:fC c S C v w):OR' c S C (some v) (some w)
theorem Fo{d:Nat}{o:Option V}{o':Option Value} (r:OR' c S C o o'){k:Nat->Prop}{K:Nat->Bool} (hk:∀n,k n->K n=true) (hv:Fe d o k):aB0 d o' K=true:=by
 cases r with
 | none=>exact hk _ hv
 | some r=>
  cases r<;>try (cases hv;done)
  rename_i j z;cases z with
  | ofNat n=>exact hk n hv
  | negSucc n=>cases hv
theorem wD{len cap:Nat}{lo hi mx:Option V}{Bf OM RX:Option Value} (r1:OR' c S C lo Bf) (r2:OR' c S C hi OM) (r3:OR' c S C mx RX){k:Nat->Nat->Nat->Prop}{K:Nat->Nat->Nat->Bool} (hk:∀l h m,l<=h->h<=m->m<=cap->k l h m->K l h m=true) (hv:HK len cap lo hi mx k):IM len cap Bf OM RX K=true:=by
 refine Fo r3 (fun m hv=>Fo r2 (fun h hv=>Fo r1 (fun l hv=>?_) hv) hv) hv;obtain⟨h1,h2,h3,hv⟩:=hv;simp only [iW h1,iW h2,iW h3];exact hk l h m h1 h2 h3 hv
theorem XN{d:Nat}{o:Option V}{k k':Nat->Prop} (hk:∀n,k n->k' n) (h:Fe d o k):Fe d o k':=by
 unfold Fe at*;split at h
 ·exact hk _ h
 ·exact hk _ h
 ·cases h
theorem aFA{n c:Nat} (hc:n<=c){lo hi:Option V}{v:V}{k:Nat->Nat->Nat->Prop} (h:HK n n lo hi (some v) k):HK n c lo hi (some v) fun l h m=>m<=n/\k l h m:=by
 unfold HK at*
 have h1:Fe c (some v) fun m=>Fe n hi fun h=>Fe 0 lo fun l=>l<=h/\h<=m/\m<=n/\k l h m:=by
  unfold Fe at h ⊢;split at h
  ·rename_i e;cases e
  ·exact h
  ·cases h
 exact XN (fun m=>XN fun h=>XN fun l ⟨a,b,d,e⟩=>⟨a,b,by omega,d,e⟩) h1
theorem aFB (s:VS P B Sb c h S){t el:TypeId}{size:Nat} (he:isSlice P t=some el) (hs:bP P el=some size){x:V}{w:Value} (r:fC c S C x w){lo hi mx:Option V}{Bf OM RX:Option Value} (r1:OR' c S C lo Bf) (r2:OR' c S C hi OM) (r3:OR' c S C mx RX){k:V->Prop}{K:Value->Bool} (hk:∀v w,fC c S C v w->k v->K w=true) (hv:JB el size x lo hi mx h k):rE P t w Bf OM RX S K=true:=by
 have jK:∀{i n b o q cc:Nat},c.G i n=some (.slice (some ⟨b,0,some 0⟩) n n)->(match h i with
  | some (.jK _ t n')=>n'=n/\t=el/\HK q cc lo hi none fun l h m=>(l<m->k (.pO i n (o+l*size) (h-l) (m-l)))/\(m=l->k (.emp i n))
  | _=>False)->rE P t (.slice (some ⟨b,o,some 0⟩) q cc) Bf OM none S K=true:=by
  intro i n b o q cc e hq;split at hq
  ·rename_i vs t' n' ei
   obtain⟨rfl,rfl,hq⟩:=hq;obtain⟨b',us,olds,sz,a1,a2,a3,a4,a5,a6,a7⟩:=s.jK i vs t' n' ei;rw [e]at a1;injection a1 with a1;injection a1 with a1;injection a1 with a1;injection a1 with a1;subst a1;unfold rE;simp only [he,hs];refine wD r1 r2 .none (fun l h m h1 h2 h3 hz=>?_) hq;obtain⟨hz,hz0⟩:=hz;simp only [aY];cases hw:Nat.beq m l with
   | true=>exact hk _ _ (.aFo e) (hz0 (cV hw))
   | false=>
    have h4:=KT hw;simp only;rw [xD a4];simp only [hs];rw [show Nat.beq size size=true from IJ size];exact hk _ _ (.pO e) (hz (by omega))
  ·cases hq
 cases r<;>try (cases hv;done)
 ·rename_i O cs n ht hd
  cases r3 with
  | none=>cases hv
  | some r3'=>
   have hv:HK n n lo hi (some _) fun l h m=>l<m/\h*size<=cs.length/\k (.list (.cut O (l*size) (h-l) (m-l)) ((cs.drop (l*size)).take ((h-l)*size)) (h-l)):=hv;cases hd with
   | nil=>
    unfold rE;simp only [he,hs];exact wD r1 r2 (.some r3') (fun l h m h1 h2 h3 hq=>absurd hq.1 (by omega)) hv
   | emp=>
    unfold rE;simp only [he,hs];exact wD r1 r2 (.some r3') (fun l h m h1 h2 h3 hq=>absurd hq.1 (by omega)) hv
   | @row b o _ cc sp vs e ck _ AA hb hC ho hl hn hr=>
    unfold rE;simp only [he,hs];refine wD r1 r2 (.some r3') (fun l h m h1 h2 h3 hq=>?_) (aFA hn hv);obtain⟨hmn,hlm,vL,hq⟩:=hq;have hle:l*size<=cs.length:=rD (oQ _ h1) vL;simp only [aY]
    have uR:Nat.beq m l=false:=by
     cases hw:Nat.beq m l with
     | false=>rfl
     | true=>have:=cV hw;omega
    rw [uR]
    have hw:K (.slice (some ⟨b,o+l*size,none⟩) (h-l) (m-l))=true:=by
     refine hk _ _ (.list (.cut ht) (.row rfl hb hC ho ?_ (by omega) fun j d v x1 x2=>?_)) hq
     ·rw [iX,mO]
      omega
     ·rw [kZ]at x1
      split at x1
      ·rw [kI]at x1
       exact hr (l*size+j) d v x1 (by rw [<-sX];exact x2)
      ·cases x1
    match sp,AA with
    | none,_=>exact hw
    | some 0,_=>exact hw
 ·unfold rE
  simp only [he,hs];refine wD r1 r2 r3 (fun l h m h1 h2 h3 hv=>?_) hv;simp only [aY];have:h-l=0/\m-l=0:=by omega
  rw [this.1,this.2];exact hk _ _ .nil hv
 ·rename_i i n e
  obtain⟨b,rfl⟩:=s.Gs _ _ _ e;cases r3 with
  | none=>exact jK e hv
  | some _=>cases hv
 ·rename_i i n o q cc b e
  cases r3 with
  | none=>exact jK e hv
  | some _=>cases hv
 ·rename_i i o n m b e
  unfold rE;simp only [he,hs];refine wD r1 r2 r3 (fun l h m h1 h2 h3 hv=>?_) hv;simp only [aY];have hw:K (.slice (some ⟨b,if m=l then o else o+l*size,none⟩) (h-l) (m-l))=true:=hk _ _ (.own e) hv;cases hq:Nat.beq m l with
  | true=>rw [if_pos (cV hq)]at hw;exact hw
  | false=>rw [if_neg (KT hq)]at hw;exact hw
theorem aAe (s:VS P B Sb c h S){t el:TypeId}{zero:List Value}{m:Nat} (he:isSlice P t=some el) (hs:bP P el=some (m+1)) (hz:sH P el=some zero) (hl:Nat.beq zero.length (m+1)=true) (hf:pW bA zero=true){x:V}{w:Value} (r:fC c S (cY B c h) x w){Kv:Hp->Prop}{K:VK} (k:∀h' S',yG (cY B c h) S S' (cY B c h')->VS P B Sb c h' S'->Kv h'->K (.tuple #[]) S'=true) (hv:MS zero x h Kv):mY P .clear [t] [w] S K=true:=by
 have fin:∀{b o q cc:Nat} {sp:Option Nat},Cr sp=true->oS S b o (List.replicate (q+1) zero).flatten (fun S=>K (.tuple #[]) S)=true->mY P .clear [t] [.slice (some ⟨b,o,sp⟩) (q+1) cc] S K=true:=by
  intro b o q cc sp AA hw
  show(match isSlice P t with
   | some elem=>match bP P elem,sH P elem with
    | some size,some zero=>match(some (⟨b,o,sp⟩:Addr)),q+1 with
     | none,_=>K (.tuple #[]) S
     | some _,0=>K (.tuple #[]) S
     | some ⟨i,o,sp⟩,n+1=>match Cr sp,Nat.beq zero.length size,pW bA zero,size with
      | true,true,true,_+1=>Qd zero (n+1) fun cs=>oS S i o cs fun S=>K (.tuple #[]) S
      | _,_,_,_=>false
    | _,_=>false
   | none=>false)=true
  simp only [he,hs,hz,AA,hl,hf];rw [zP];exact hw
 have aFC:∀{a:Addr} {cc:Nat},K (.tuple #[]) S=true->mY P .clear [t] [.slice (some a) 0 cc] S K=true:=by
  intro a cc hw
  show(match isSlice P t with
   | some elem=>match bP P elem,sH P elem with
    | some size,some zero=>K (.tuple #[]) S
    | _,_=>false
   | none=>false)=true
  simp only [he,hs,hz];exact hw
 have zs:∀{q:Nat} {z:List V},IZ zero=some z->kE c S (cY B c h) (List.replicate (q+1) z).flatten (List.replicate (q+1) zero).flatten:=fun hz=>(OB hz).flatten _
 have Oh:∀{p:List V->Prop},xF zero p->∃z,IZ zero=some z/\p z:=by
  intro p hp;unfold xF at hp;split at hp
  ·rename_i z e;exact⟨z,e,hp⟩
  ·cases hp
 have here:=fun(hv:Kv h)=>k h S (.refl _ S) s hv;unfold MS at hv;split at hv
 ·cases r
  show(match isSlice P t with
   | some elem=>match bP P elem,sH P elem with
    | some size,some zero=>K (.tuple #[]) S
    | _,_=>false
   | none=>false)=true
  simp only [he,hs,hz];exact here hv
 ·cases r with
  | own e=>
   split at hv
   ·exact aFC (here hv)
   ·obtain⟨z,YC,hq⟩:=Oh hv
    split at hq
    ·rename_i vs t' e1
     exact fin rfl (RG s e1 e (zs YC) hq.1 k hq.2)
    ·cases hq
 ·cases r with
  | acc e=>
   obtain⟨b,rfl⟩:=s.Gs _ _ _ e;split at hv
   ·exact aFC (here hv)
   ·obtain⟨z,YC,hq⟩:=Oh hv
    split at hq
    ·rename_i vs t' m' e1
     obtain⟨rfl,hq⟩:=hq;exact fin rfl (yZ s e1 e (zs YC) (by omega) k hq.2)
    ·cases hq
 ·cases r with
  | pO e=>
   split at hv
   ·exact aFC (here hv)
   ·obtain⟨z,YC,hq⟩:=Oh hv
    split at hq
    ·rename_i vs t' m' e1
     obtain⟨rfl,hq⟩:=hq;exact fin rfl (yZ s e1 e (zs YC) hq.1 k hq.2)
    ·cases hq
 ·cases hv
theorem aC2 (s:VS P B Sb c h S){ts:List TypeId}{dT el:TypeId}{m:Nat} (he:isSlice P dT=some el) (hs:bP P el=some (m+1)){y x:V}{w u:Value} (r:fC c S (cY B c h) y w) (q:fC c S (cY B c h) x u){Kv:KV}{K:VK} (k:KR P B Sb c h S Kv K) (hv:aFa (m+1) y x h Kv):Il P (dT::ts) w u S K=true:=by
 unfold aFa at hv;obtain⟨n,vs,ws,hv,hr,hl,hlen,Hr⟩:=Uk s (Nat.succ_pos m) q hv;cases y with
 | own i o d cc=>
  cases r with
  | @own _ _ _ _ b hZ=>
  obtain⟨hn,hv⟩:=hv;unfold Il;simp only [he,hs];have aB3:Nat.min n d=n:=Nat.min_eq_left hn;rw [hlen,aY,aB3];cases n with
  | zero=>exact k.here s .int hv
  | succ n=>
   obtain⟨h1,hv⟩:=hv;have hS:=Hr h1;show DF S (m+1) (n+1) u _=true;rw [hS.first _ (by omega)];have ho:pW fR ws=true:=by rw [jJ];exact dL.2 hS.one
   simp only [show Cr none=true from rfl,ho];split at hv
   ·rename_i us t e
    refine RG s e hZ hr hv.1 (fun h' S' f s' CC=>?_) hv.2;exact k c h' S' _ _ (.refl c) f s' .int CC
   ·cases hv
 | _=>cases hv
theorem aFD{t el:TypeId}{len size:Nat} (he:P.underlying t=some (.array len el)) (hs:bP P el=some size){x:V}{w:Value} (r:fC c S C x w){lo hi mx:Option V}{Bf OM RX:Option Value} (r1:OR' c S C lo Bf) (r2:OR' c S C hi OM) (r3:OR' c S C mx RX){k:V->Prop}{K:Value->Bool} (hk:∀v w,fC c S C v w->k v->K w=true) (hv:Zt len size x lo hi mx k):rE P t w Bf OM RX S K=true:=by
 cases r<;>try (cases hv;done)
 rename_i i o b e;unfold rE;simp only [he,hs];refine wD r1 r2 r3 (fun l h m h1 h2 h3 hv=>?_) hv;simp only [aY];have hw:K (.slice (some ⟨b,if m=l then o else o+l*size,none⟩) (h-l) (m-l))=true:=hk _ _ (.own e) hv;cases hq:Nat.beq m l with
 | true=>rw [if_pos (cV hq)]at hw;exact hw
 | false=>rw [if_neg (KT hq)]at hw;exact hw
theorem aFE{t:TypeId} (he:P.underlying t=some .string){x:V}{w:Value} (r:fC c S C x w){lo hi:Option V}{Bf OM:Option Value} (r1:OR' c S C lo Bf) (r2:OR' c S C hi OM){k:V->Prop}{K:Value->Bool} (hk:∀v w,fC c S C v w->k v->K w=true) (hv:aM0 x lo hi k):rE P t w Bf OM none S K=true:=by
 cases r<;>try (cases hv;done)
 rename_i s;unfold rE;simp only [he];rw [jT];refine wD r1 r2 .none (fun l h m h1 h2 h3 hv=>?_) hv;rw [AB,if_pos (by omega),wW,if_pos (by simp;omega)];exact hk _ _ .str hv
theorem aHQ (s:VS P B Sb c h S){t el:TypeId}{info:TypeInfo}{zero:List Value}{n:Nat} (he:isSlice P t=some el) (hi:P.info? el=some info) (hz:sH P el=some zero) (hl:Nat.beq zero.length info.size=true) (hn:info.size=n+1) (hf:pW bA zero=true){x y:V}{w u:Value} (r:fC c S C x w) (q:fC c S C y u){Kv:KV}{K:VK} (k:KR P B Sb c h S Kv K) (hv:vMk el info.bytes zero x y h Kv):sZ P t w u S K=true:=by
 unfold vMk at hv;cases r<;>try (cases hv;done)
 rename_i j z;cases z with
 | negSucc n=>cases hv
 | ofNat l=>
 cases q<;>try (cases hv;done)
 rename_i j' z;cases z with
 | negSucc n=>cases hv
 | ofNat cc=>
  obtain⟨h1,h2,h3,hv⟩:=hv;unfold xF at hv;split at hv
  ·rename_i zs e
   rw [hn]at hl;unfold sZ;simp only [he,hi,hz,iW h1,iW h2,iW h3,iW (show cc<=1099511627776 by omega),hl,hn,hf];rw [zP];obtain⟨c',h',i,a1,a2,a3,a4,a5⟩:=UG s ((OB e).flatten cc) hv;rw [gG];exact k c' h' _ _ _ a1 a2 a3 (.own a4) a5
  ·cases hv
end
section
variable{P:Program}{B:Nat->Prop}{Sb:St}{c c' d:Cx}{h h':Hp}{S S':St}{C C':Nat->Prop}
theorem Ut (k:IntKind):yM k k=true:=by cases k<;>rfl
theorem aFO{t:TypeId}{ct:CT} (h:XE P t=some ct):pM P t=true:=by
 unfold XE at h;unfold pM;split at h<;>simp_all
theorem aJj{t:TypeId}{ct:CT} (hc:XE P t=some ct){a b:V}{a' b':Value} (ha:fC c S C a a') (hb:fC c S C b b') (oa:aCP ct a) (ob:aCP ct b) (k:Bool->Bool):∃e:Bool,(e=true↔a=b)/\sI P t a' b' k=k e:=by
 unfold XE at hc;split at hc
 ·rename_i ik hu
  injection hc with hc;subst hc;cases ha<;>try (cases oa;done)
  rename_i j x;cases hb<;>try (cases ob;done)
  rename_i j' y;have oa:j=ik:=oa;have ob:j'=ik:=ob;subst oa ob;refine⟨Au x y,?_,?_⟩
  ·rw [tD]
   constructor
   ·intro h;rw [beq_iff_eq.1 h]
   ·intro h;injection h with _ h;subst h;simp
  ·unfold sI
   simp only [hu,Ut,nQ]
 ·rename_i hu
  injection hc with hc;subst hc;cases ha<;>try (cases oa;done)
  rename_i x;cases hb<;>try (cases ob;done)
  rename_i y;refine⟨ZW x y,?_,?_⟩
  ·rw [CF]
   constructor
   ·intro h;rw [beq_iff_eq.1 h]
   ·intro h;injection h with h;subst h;simp
  ·unfold sI
   simp only [hu,nQ]
 ·rename_i hu
  injection hc with hc;subst hc;cases ha<;>try (cases oa;done)
  rename_i x;cases hb<;>try (cases ob;done)
  rename_i y;refine⟨x==y,?_,?_⟩
  ·constructor
   ·intro h;rw [beq_iff_eq.1 h]
   ·intro h;injection h with h;subst h;simp
  ·unfold sI
   simp only [hu,nQ]
 ·cases hc
theorem aFP{k:Bool->Bool}:∀{fs:List Field} {l:List CT} {a b:List V} {a' b':List Value},FQ P fs=some l->kE c S C a a'->kE c S C b b'->ZD l a->ZD l b->∃e:Bool,(e=true↔a=b)/\GR P fs a' b' k=k e:=by
 intro fs;induction fs with
 | nil=>
  intro l a b a' b' hl ha hb oa ob;simp [FQ]at hl;subst hl;cases a with
  | cons=>cases oa
  | nil=>cases b with
   | cons=>cases ob
   | nil=>exact⟨true,by simp,rfl⟩
 | cons f fs ih=>
  intro l a b a' b' hl ha hb oa ob;unfold FQ at hl;split at hl
  ·rename_i ct hct
   split at hl
   ·rename_i l' Qk
    injection hl with hl;subst hl;cases a with
    | nil=>cases oa
    | cons x a=>cases b with
     | nil=>cases ob
     | cons y b=>
      obtain⟨x',a'',rfl,rx,ra⟩:=ha.cons_inv;obtain⟨y',b'',rfl,ry,rb⟩:=hb.cons_inv;obtain⟨e2,g3,g4⟩:=ih Qk ra rb oa.2 ob.2;obtain⟨e1,g1,g2⟩:=aJj hct rx ry oa.1 ob.1 (fun e=>match e with | true=>GR P fs a'' b'' k | false=>k false);refine⟨e1&&e2,?_,?_⟩
      ·rw [bT,g1,g3];simp
      ·show sI P f.type x' y' (fun e=>match e with | true=>GR P fs a'' b'' k | false=>k false)=_
       rw [g2];cases e1 with
       | true=>exact g4
       | false=>rfl
   ·cases hl
  ·cases hl
theorem aM7{t:TypeId}{sh:KSh} (hs:Fb P t=some sh){a b:V}{a' b':Value} (ha:fC c S C a a') (hb:fC c S C b b') (oa:RB sh a) (ob:RB sh b) (k:Bool->Bool):∃e:Bool,(e=true↔a=b)/\BF P t a' b' k=k e:=by
 unfold Fb at hs;split at hs
 ·rename_i ct hct
  injection hs with hs;subst hs;obtain⟨e,g1,g2⟩:=aJj hct ha hb oa ob k;refine⟨e,g1,?_⟩;rw [<-g2];unfold BF;split
  ·rename_i xs ys
   cases ha<;>cases ct<;>cases oa
  ·rfl
 ·split at hs
  ·rename_i fs hfs
   split at hs
   ·rename_i l hl
    injection hs with hs;subst hs;cases ha<;>try (cases oa;done)
    cases hb<;>try (cases ob;done)
    rename_i xs xs' la rxa ys ys' lb ryb;obtain⟨e,g1,g2⟩:=aFP (k:=k) hl ⟨la,rxa⟩ ⟨lb,ryb⟩ oa ob;refine⟨e,?_,?_⟩
    ·rw [g1];simp
    ·show nX P t (.agg ⟨xs'⟩) (.agg ⟨ys'⟩) k=_
     unfold nX;simp only [hfs];exact g2
   ·cases hs
  ·cases hs
theorem aBI{ct:CT}{v:V}{w:Value} (r:fC c S C v w) (o:aCP ct v):bA w=true:=by
 cases r<;>first | rfl | (cases ct<;>cases o)
theorem aFQ:∀{l:List CT} {a:List V} {a':List Value},kE c S C a a'->ZD l a->a'.all bA=true/\a'.length=l.length:=by
 intro l;induction l with
 | nil=>intro a a' r o;cases a with | cons=>cases o | nil=>rw [r.mL];exact⟨rfl,rfl⟩
 | cons ct l ih=>
  intro a a' r o;cases a with
  | nil=>cases o
  | cons x a=>
   obtain⟨x',a'',rfl,rx,ra⟩:=r.cons_inv;obtain⟨h1,h2⟩:=ih ra o.2;exact⟨by simp [aBI rx o.1,h1],by simp [h2]⟩
theorem Uu:∀{fs:List Field} {l:List CT},FQ P fs=some l->fs.length=l.length:=by
 intro fs;induction fs with
 | nil=>intro l h;simp [FQ]at h;subst h;rfl
 | cons f fs ih=>
  intro l h;unfold FQ at h;split at h
  ·split at h
   ·rename_i hl;injection h with h;subst h;simp [ih hl]
   ·cases h
  ·cases h
theorem Uv{t:TypeId}{sh:KSh} (hs:Fb P t=some sh){a:V}{a':Value} (ha:fC c S C a a') (oa:RB sh a):JR P t a'=true:=by
 unfold Fb at hs;split at hs
 ·rename_i ct hct
  injection hs with hs;subst hs;have hf:=aBI ha oa;have h1:iZ a'=true:=by cases a'<;>first | exact hf | (simp [bA]at hf)
  unfold JR;simp only [h1,aFO hct]
 ·rename_i hn
  split at hs
  ·rename_i fs hfs
   split at hs
   ·rename_i l hl
    injection hs with hs;subst hs;cases ha<;>try (cases oa;done)
    rename_i xs xs' la rxa;obtain⟨h1,h2⟩:=aFQ ⟨la,rxa⟩ oa;have h1:iZ (.agg ⟨xs'⟩)=true:=h1;unfold JR;have h3:Nat.ble fs.length xs'.length=true:=iW (by rw [Uu hl,h2];exact bN _);simp only [h1];cases pM P t with
    | true=>rfl
    | false=>simp only [hfs,h3]
   ·cases hs
  ·cases hs
theorem bytes_beq (l:List UInt8):((⟨⟨l⟩⟩:ByteArray)==⟨⟨l⟩⟩)=true:=by
 show ByteArray.beq ⟨⟨l⟩⟩ ⟨⟨l⟩⟩=true;unfold ByteArray.beq;simp
theorem aBJ{n:Nat}{ct:CT}{v:V}{w:Value} (r:fC c S C v w) (o:aCP ct v):Instr.sameBits n w w=true:=by
 cases r<;>first | (cases ct<;>cases o;done) | (cases n<;>first | exact bytes_beq _ | (simp [Instr.sameBits];done))
theorem aFR{n:Nat}:∀{l:List CT} {a:List V} {a':List Value},kE c S C a a'->ZD l a->((a'.zip a').all fun(x,y)=>Instr.sameBits n x y)=true:=by
 intro l;induction l with
 | nil=>intro a a' r o;cases a with | cons=>cases o | nil=>rw [r.mL];rfl
 | cons ct l ih=>
  intro a a' r o;cases a with
  | nil=>cases o
  | cons x a=>
   obtain⟨x',a'',rfl,rx,ra⟩:=r.cons_inv;simp [aBJ rx o.1];have:=ih ra o.2;simpa using this
theorem aHT{sh:KSh}{a:V}{a':Value} (ha:fC c S C a a') (oa:RB sh a) (n:Nat):Instr.sameBits (n+1) a' a'=true:=by
 cases sh with
 | one ct=>exact aBJ ha oa
 | many l=>
  cases ha<;>try (cases oa;done)
  rename_i xs xs' la rxa;have:=aFR (n:=n) (⟨la,rxa⟩:kE c S C xs xs') oa;simp only [Instr.sameBits];simpa using this
def EsR (c:Cx) (S:St) (C:Nat->Prop) (es:List (V×V)) (iD:List MapEntry):Prop:=es.length=iD.length/\∀(k:Nat) (x:V×V) (y:MapEntry),es[k]? =some x->iD[k]? =some y->fC c S C x.1 y.key/\fC c S C x.2 y.val
theorem EsR.tail{x:V×V}{y:MapEntry}{es:List (V×V)}{iD:List MapEntry} (r:EsR c S C (x::es) (y::iD)):EsR c S C es iD:=⟨by simpa using r.1,fun k a b p q=>r.2 (k+1) a b (by simpa using p) (by simpa using q)⟩
theorem Uw{t:TypeId}{sh:KSh} (hs:Fb P t=some sh){a:V}{a':Value} (ha:fC c S C a a') (oa:RB sh a) (k:Option (Nat×MapEntry)->Bool):∀{es:List (V×V)} {iD:List MapEntry} (i:Nat),EsR c S C es iD->(∀e∈es,RB sh e.1)->
 (Ak es a=none/\(∀x,XF es a x=es++[(a,x)])/\fE (β:=Nat->Bool) (fun _=>k none) (fun e _ ih i=>BF P t a' e.key fun b=>match b with | true=>k (some (i,e)) | false=>cG (Nat.succ i) ih) iD i=k none)\/
 ∃j v e',Ak es a=some v/\iD[j]? =some e'/\e'.key=a'/\fC c S C v e'.val/\(∀x,XF es a x=es.set j (a,x))/\fE (β:=Nat->Bool) (fun _=>k none) (fun e _ ih i=>BF P t a' e.key fun b=>match b with | true=>k (some (i,e)) | false=>cG (Nat.succ i) ih) iD i=k (some (i+j,e')):=by
 intro es;induction es with
 | nil=>
  intro iD i r ho;have:iD=[]:=lZ (by simpa using r.1.symm);subst this;exact .inl ⟨rfl,fun x=>rfl,rfl⟩
 | cons x es ih=>
  intro iD i r ho;cases iD with
  | nil=>have:=r.1;simp at this
  | cons y iD=>
   have r0:=r.2 0 x y rfl rfl;rw [aO];obtain⟨e,g1,g2⟩:=aM7 hs ha r0.1 oa (ho x (.head _)) (fun b=>match b with | true=>k (some (i,y)) | false=>cG (Nat.succ i) (fE (β:=Nat->Bool) (fun _=>k none) (fun e _ ih i=>BF P t a' e.key fun b=>match b with | true=>k (some (i,e)) | false=>cG (Nat.succ i) ih) iD));rw [g2];by_cases he:a=x.1
   ·have:e=true:=g1.2 he
    subst this;refine .inr ⟨0,x.2,y,by simp [Ak,he],rfl,?_,r0.2,fun z=>by simp [XF,he],rfl⟩;have:=r0.1;rw [<-he]at this;exact this.fn ha
   ·have:e=false:=by cases e with | false=>rfl | true=>exact absurd (g1.1 rfl) he
    subst this;rw [aY];rcases ih (i+1) r.tail (fun e he=>ho e (.tail _ he))with ⟨q1,q2,q3⟩ | ⟨j,v,e',q1,q2,q3,q4,q5,q6⟩
    ·exact .inl ⟨by simp [Ak,he,q1],fun z=>by simp [XF,he,q2 z],q3⟩
    ·refine .inr ⟨j+1,v,e',by simp [Ak,he,q1],by simpa using q2,q3,q4,fun z=>by simp [XF,he,q5 z],?_⟩
     rw [show i+(j+1)=i+1+j by omega];exact q6
theorem VS.map (s:VS P B Sb c h S){i:Nat}{es:List (V×V)} (e:h i=some (.map es)):∃b iD ck,c.Z i=some b/\S.obj b=some (.map iD ck)/\EsR c S (cY B c h) es iD:=by
 obtain⟨b,a,a1,a2,a3,a4,iD,ck,rfl,_,a5,a6⟩:=s.ob i _ e rfl;exact⟨b,iD,ck,a1,a4,a5,a6⟩
theorem VS.aKE (s:VS P B Sb c h S){i:Nat}{es:List (V×V)} (e:h i=some (.map es)):∃b iD ck,c.Z i=some b/\S.obj b=some (.map iD ck)/\EsR c S (cY B c h) es iD/\EI iD ck:=by
 obtain⟨b,a,a1,a2,a3,a4,iD,ck,rfl,a7,a5,a6⟩:=s.ob i _ e rfl;exact⟨b,iD,ck,a1,a4,⟨a5,a6⟩,a7⟩
theorem aAn{b:Nat}{es:List MapEntry}{ck:Nat} (e:S.obj b=some (.map es ck)) (k:Option Nat->List MapEntry->Nat->Bool):Le S (.map (some b)) k=k (some b) es ck:=by
 show nV S.h b _=_;rw [lB];have e:S.h.get b=some (.map es ck):=e;rw [e]
theorem aC5 (s:VS P B Sb c h S){t kt et:TypeId}{sh:KSh}{z:Value}{zv:V}{ok:Bool} (ht:BG P t=some (kt,et)) (hs:Fb P kt=some sh) (hz:zeroV P et=some z) (hzv:ofC z=some zv){m a:V}{w u:Value} (r:fC c S (cY B c h) m w) (q:fC c S (cY B c h) a u){Kv:KV}{K:VK} (k:KR P B Sb c h S Kv K) (hv:TZ sh zv ok m a h Kv):NP P t w u ok S K=true:=by
 unfold TZ at hv;split at hv
 ·rename_i i
  cases r with
  | tM hZ=>
   split at hv
   ·rename_i es e
    obtain⟨oa,ho,hv1,Lu⟩:=hv;obtain⟨b,iD,ck,a1,a2,a3⟩:=s.map e;rw [hZ]at a1;injection a1 with a1;subst a1;obtain⟨hf,rz⟩:=aFs (c:=c) (S:=S) (C:=cY B c h) hzv;unfold NP;simp only [ht,hz,Uv hs q oa];rw [aAn a2];unfold XY
    rcases Uw hs q oa (fun r=>match(generalizing:=false) r with
     | some (_,e)=>match(generalizing:=false) ok with | true=>K (.tuple ⟨[e.val,.bool true]⟩) S | false=>K e.val S
     | none=>match(generalizing:=false) iZ z with
      | true=>match(generalizing:=false) ok with | true=>K (.tuple ⟨[z,.bool false]⟩) S | false=>K z S
      | false=>false) 0 a3 ho with ⟨q1,_,q3⟩ | ⟨j,v,e',q1,q2,q3,q4,_,q6⟩
    ·refine q3.trans ?_
     simp only [hf];cases ok with
     | true=>exact k.here s (.tuple (kE.cons rz (.cons .bool .nil)).len (kE.cons rz (.cons .bool .nil)).rd) (Lu q1)
     | false=>exact k.here s rz (Lu q1)
    ·refine q6.trans ?_
     cases ok with
     | true=>exact k.here s (.tuple (kE.cons q4 (.cons .bool .nil)).len (kE.cons q4 (.cons .bool .nil)).rd) (hv1 v q1)
     | false=>exact k.here s q4 (hv1 v q1)
   ·cases hv
 ·cases hv
theorem aAg (s:VS P B Sb c h S){t kt et:TypeId}{sh:KSh} (ht:BG P t=some (kt,et)) (hs:Fb P kt=some sh){m a x:V}{w u y:Value} (r:fC c S (cY B c h) m w) (q:fC c S (cY B c h) a u) (rx:fC c S (cY B c h) x y){Kv:KV}{K:VK} (k:KR P B Sb c h S Kv K) (hv:XG sh m a x h fun h=>Kv JA h):yO P t w u y S (fun S=>K undef S)=true:=by
 unfold XG at hv;split at hv
 ·rename_i i
  cases r with
  | tM hZ=>
   split at hv
   ·rename_i es e
    obtain⟨oa,ho,hv⟩:=hv;obtain⟨b,iD,ck,a1,a2,a3,a8⟩:=s.aKE e;have a1':=a1;rw [hZ]at a1;injection a1 with a1;subst a1;unfold yO;simp only [ht,Uv hs q oa];rw [aAn a2];simp only;unfold XY
    have fin:∀es2 ck2,EI es2 ck2->EsR c S (cY B c h) (XF es a x) es2->K undef (S.set _ (.map es2 ck2))=true:=fun es2 ck2 b2 r2=>by
     obtain⟨s1,f1⟩:=s.Js e rfl hZ (o:= .map (XF es a x)) rfl (ao:= .map es2 ck2) fun S' C' f=>⟨es2,ck2,rfl,b2,r2.1,fun k x y p q=>⟨(r2.2 k x y p q).1.mono (.refl c) f,(r2.2 k x y p q).2.mono (.refl c) f⟩⟩;exact k c _ _ JA undef (.refl c) f1 s1 (.tuple (a':=[]) rfl fun k v w e=>by simp at e) hv
    rcases Uw hs q oa (fun f=>match f with
     | some (i,e)=>match Instr.sameBits 10000 e.key u with
      | true=>aAQ {e with val:=y} iD i fun es=>pX S _ (.map es ck) fun S=>K undef S
      | false=>false
     | none=>wQ iD [{key:=u,val:=y,born:=ck}] fun es=>cG (Nat.succ ck) fun c=>pX S _ (.map es c) fun S=>K undef S) 0 a3 ho with ⟨q1,q2,q3⟩ | ⟨j,v,e',q1,q2,q3,q4,q5,q6⟩
    ·refine q3.trans ?_
     rw [kL,aY,fZ];refine fin _ _ (a8.app rfl) ?_;rw [q2 x];refine⟨by simp [a3.1],fun k p p' e1 e2=>?_⟩;by_cases hk:k<es.length
     ·rw [fQ hk]at e1
      rw [fQ (by rw [<-a3.1];exact hk)]at e2;exact a3.2 k p p' e1 e2
     ·rw [iO (by omega)]at e1
      rw [iO (by rw [<-a3.1];omega),<-a3.1]at e2;cases hq:k-es.length with
      | zero=>
       rw [hq]at e1 e2;simp at e1 e2;subst e1 e2;exact⟨q,rx⟩
      | succ n=>rw [hq]at e1;simp at e1
    ·refine q6.trans ?_
     simp only [fK,q3];rw [aHT q oa 9999];simp only;rw [Db,fZ];refine fin _ _ (a8.set q2 rfl) ?_;rw [q5 x];refine⟨by simp [a3.1],fun k p p' e1 e2=>?_⟩;by_cases hk:k=j
     ·subst hk
      rw [Ck,if_pos rfl]at e1 e2;split at e1
      ·rename_i hlt
       rw [if_pos (by rw [<-a3.1];exact hlt)]at e2;injection e1 with e1;injection e2 with e2;subst e1 e2;exact⟨q,rx⟩
      ·cases e1
     ·rw [PV (dV hk)]at e1 e2
      exact a3.2 k p p' e1 e2
   ·cases hv
 ·cases hv
theorem ZG (s:VS P B Sb c h S){Kv:KV}{K:VK} (k:KR P B Sb c h S Kv K) (hv:Bq h Kv):sP S (.map [] 0) (fun i S=>K (.map (some i)) S)=true:=by
 obtain⟨i,e1,e2,e3⟩:=s.fresh;obtain⟨s1,l1,f1,i1⟩:=s.aBC e1 e2 e3 (o:= .map []) (ao:= .map [] 0) rfl fun _ _ _ _ _=>⟨[],0,rfl,⟨.nil,fun e he=>by cases he⟩,rfl,fun k x y p=>by simp at p⟩;rw [gG];exact k _ _ _ _ _ l1 f1 s1 (.tM i1) (hv i e1)
theorem Oi (s:VS P B Sb c h S){r:V}{w:Value} (rr:fC c S C r w){t:TypeId}{kv:TypeId×TypeId} (ht:BG P t=some kv){Kv:KV}{K:VK} (k:KR P B Sb c h S Kv K) (hv:Fd r h Kv):
 (match(generalizing:=false) w,BG P t with | .int _ _,some _=>sP S (.map [] 0) (fun i S=>K (.map (some i)) S) | _,_=>false)=true:=by
 unfold Fd at hv;split at hv
 ·cases rr
  rw [ht];exact ZG s k hv
 ·cases hv
theorem aC4 (s:VS P B Sb c h S){t kt et:TypeId} (hu:P.underlying t=some (.map kt et)){x:V}{w:Value} (r:fC c S (cY B c h) x w){Kv:KV}{K:VK} (k:KR P B Sb c h S Kv K) (hv:aE9 x h Kv):mY P .len [t] [w] S K=true:=by
 unfold aE9 at hv;split at hv
 ·rename_i i
  cases r with
  | tM hZ=>
   split at hv
   ·rename_i es e
    obtain⟨b,iD,ck,a1,a2,a3⟩:=s.map e;rw [hZ]at a1;injection a1 with a1;subst a1;have hm:BG P t=some (kt,et):=by unfold BG;rw [hu]
    simp only [mY,hm];rw [aAn a2,jT,<-a3.1];exact k.here s .int hv
   ·cases hv
 ·cases hv
theorem Up (s:VS P B Sb c h S){t:TypeId}{kv:TypeId×TypeId} (ht:BG P t=some kv){x:V}{w:Value} (r:fC c S (cY B c h) x w){Kv:KV}{K:VK} (k:KR P B Sb c h S Kv K) (hv:Nn x h Kv):SA P t w S K=true:=by
 unfold Nn at hv;split at hv
 ·rename_i m
  cases r with
  | tM hZ=>
   split at hv
   ·rename_i es e
    obtain⟨b,iD,ck,a1,a2,a3,a4⟩:=s.aKE e;rw [hZ]at a1;injection a1 with a1;subst a1;have Dp:(iD.map (·.born)).length=es.length:=by rw [DD];exact a3.1.symm
    have OO:∀x∈iD.map (·.born),x<ck:=fun x hx=>by
     obtain⟨y,hy,rfl⟩:=mA.1 hx;exact a4.2 y hy
    obtain⟨s1,hL⟩:=s.aM6 e rfl hZ (o:= .TW es (iD.map (·.born)) ck) rfl fun a C' ha q=>by
     rw [a2]at ha;injection ha with ha;subst ha;obtain⟨es2,ck2,q1,q2,q3,q4⟩:=q;injection q1 with q1 q5;subst q1 q5;exact⟨_,rfl,rfl,q2,q3,q4⟩
    obtain⟨i,e1,e2,e3⟩:=s1.fresh;obtain⟨s2,l2,f2,i2⟩:=s1.aBC e1 e2 e3 (o:= .iter m ck [] ck) (ao:= .iter (some _) ck [] ck) rfl fun d _ _ ld _=>⟨_,rfl,ld.Z _ _ hZ⟩;unfold SA;rw [ht];show nV S.h _ _=true;have a2:S.h.get _=some (.map iD ck):=a2;rw [lB,a2];show sP S (.iter (some _) ck [] ck) (fun i S=>K (.pointer (some ⟨i,0,none⟩)) S)=true;rw [gG];rw [hL]at f2;exact k _ _ _ _ _ l2 f2 s2 (.ptr i2) (hv _ ck Dp a4.1 OO i e1)
   ·cases hv
 ·cases hv
theorem VS.iter (s:VS P B Sb c h S){i m since last:Nat}{seen:List Nat} (e:h i=some (.iter m since seen last)):∃b r,c.Z i=some b/\S.obj b=some (.iter (some r) since seen last)/\c.Z m=some r:=by
 obtain⟨b,a,a1,a2,a3,a4,r,rfl,a5⟩:=s.ob i _ e rfl;exact⟨b,r,a1,a4,a5⟩
theorem VS.TW (s:VS P B Sb c h S){i ck:Nat}{es:List (V×V)}{bs:List Nat} (e:h i=some (.TW es bs ck)):∃b iD,c.Z i=some b/\S.obj b=some (.map iD ck)/\iD.map (·.born)=bs/\EI iD ck/\EsR c S (cY B c h) es iD:=by
 obtain⟨b,a,a1,a2,a3,a4,iD,rfl,a7,a8,a5,a6⟩:=s.ob i _ e rfl;exact⟨b,iD,a1,a4,a7,a8,a5,a6⟩
theorem aAh (s:VS P B Sb c h S){x:V}{w:Value} (r:fC c S (cY B c h) x w){Kv:KV}{K:VK} (k:KR P B Sb c h S Kv K) (hv:Zs x h Kv):aAT w S K=true:=by
 unfold Zs at hv;split at hv
 ·rename_i i
  cases r with
  | ptr hZ=>
   rename_i bb;split at hv
   ·rename_i m since seen last ei
    split at hv
    ·rename_i es bs ck em
     obtain⟨hbs,hsl,hv1,Lu⟩:=hv;obtain⟨b,rr,a1,a2,a3⟩:=s.iter ei;rw [hZ]at a1;injection a1 with a1;subst a1;obtain⟨b2,iD,c1,c2,c3,c4,c5⟩:=s.TW em;rw [a3]at c1;injection c1 with c1;subst c1;show nV S.h _ _=true;have a2':S.h.get _=some (.iter (some rr) since seen last):=a2;have c2':S.h.get rr=some (.map iD ck):=c2;rw [lB,a2'];show nV S.h rr _=true;rw [lB,c2']
     have h1:pW (fun e:MapEntry=>Nat.blt e.born since) iD=true:=by
      rw [jJ,dL];intro e he;exact iW (hbs _ (by rw [<-c3];exact mA.2 ⟨e,he,rfl⟩))
     simp only [h1,iW hsl];rw [Qp]
     have wK:(iD.filter (fun e=> !seen.contains e.born)).all (fun e=>wQ seen [e.born] fun seen=>pX S bb (.iter (some rr) since seen ck) fun S=>K (.tuple ⟨[.bool true,e.key,e.val]⟩) S)=true:=by
      rw [dL];intro e he;obtain⟨Me,he2⟩:=dU.1 he;obtain⟨j,hj,rfl⟩:=KU Me;have Bb:j<es.length:=by rw [c5.1];exact hj
      have hns:¬iD[j].born∈seen:=by simpa using he2
      rw [kL,fZ];obtain⟨s1,f1⟩:=s.Js ei rfl hZ (o:= .iter m since (seen++[iD[j].born]) ck) rfl (ao:= .iter (some rr) since (seen++[iD[j].born]) ck) fun S' C' f=>⟨rr,rfl,a3⟩;obtain⟨q1,q2⟩:=c5.2 j _ _ (aS Bb) (aS hj);refine k c _ _ _ _ (.refl c) f1 s1 ?_ (Lu j es[j] iD[j].born (aS Bb) (by rw [<-c3,lA,aS hj];rfl) hns);have rl:kE c (S.set bb (.iter (some rr) since (seen++[iD[j].born]) ck)) (cY B c (aR h i (.iter m since (seen++[iD[j].born]) ck))) [.bool true,es[j].1,es[j].2] [.bool true,iD[j].key,iD[j].val]:= .cons .bool (.cons (q1.mono (.refl c) f1) (.cons (q2.mono (.refl c) f1) .nil));exact .tuple rl.len rl.rd
     cases hf:iD.filter (fun e=> !seen.contains e.born)with
     | nil=>
      have JT:∀b∈bs,b∈seen:=by
       intro b hb;rw [<-c3]at hb;obtain⟨e,he,rfl⟩:=mA.1 hb;by_cases hc:e.born∈seen
       ·exact hc
       ·have:e∈iD.filter (fun e=> !seen.contains e.born):=dU.2 ⟨he,by simpa using hc⟩
        rw [hf]at this;cases this
      obtain⟨s1,hL⟩:=s.aM6 em rfl a3 (o:= .map es) rfl fun a C' ha q=>by
       obtain⟨es2,q1,q2,q3,q4,q5⟩:=q;exact⟨es2,ck,q1,q3,q4,q5⟩
      refine k c _ _ _ _ (.refl c) (by rw [hL];exact .refl _ _) s1 ?_ (hv1 JT);have rl:kE c S (cY B c (aR h m (.map es))) [.bool false] [.bool false]:= .cons .bool .nil;exact .tuple rl.len rl.rd
     | cons e t=>
      rw [hf]at wK;simp only [jJ];exact wK
    ·cases hv
   ·cases hv
 ·cases hv
theorem aFS{l:List Nat}{b:Nat}{k:Nat->Bool} (h:l.getLast?=some b):Qh l k=k b:=by
 induction l with
 | nil=>cases h
 | cons n t ih=>
  cases t with
  | nil=>injection h with h;subst h;rfl
  | cons m t=>
   rw [List.getLast?_cons_cons]at h;exact ih h
theorem aAo{n:Nat}{k:Nat->MapEntry->Bool}:∀{es:List MapEntry} {j i:Nat} {e:MapEntry},(es.map (·.born)).Pairwise (· < ·)->es[j]? =some e->e.born=n->FF n k es i=k (i+j) e:=by
 intro es;induction es with
 | nil=>intro j i e _ h;simp at h
 | cons a es ih=>
  intro j i e hp he hb;rw [vK,rC]at hp;cases j with
  | zero=>
   simp at he;subst he;show(match Nat.beq a.born n with | true=>k i a | false=>cG (Nat.succ i) fun i=>FF n k es i)=_;have:Nat.beq a.born n=true:=by rw [hb];simp
   rw [this,II]
  | succ j=>
   have he:es[j]? =some e:=by simpa using he
   have hlt:=hp.1 e.born (mA.2 ⟨e,rB he,rfl⟩);show(match Nat.beq a.born n with | true=>k i a | false=>cG (Nat.succ i) fun i=>FF n k es i)=_;have:Nat.beq a.born n=false:=by cases hq:Nat.beq a.born n with | false=>rfl | true=>have:=cV hq;omega
   rw [this];show cG (Nat.succ i) (fun i=>FF n k es i)=_;rw [aY];show FF n k es (Nat.succ i)=_;rw [ih hp.2 he hb]
   congr 1;omega
theorem aFT{n:Nat}{k:Nat->MapEntry->Bool}{es:List MapEntry}{j:Nat}{e:MapEntry} (hp:(es.map (·.born)).Pairwise (· < ·)) (he:es[j]? =some e) (hb:e.born=n):Ik n es k=k j e:=by
 have:=aAo (k:=k) (i:=0) hp he hb;rw [fK]at this;exact this
theorem Uq (s:VS P B Sb c h S){x:V}{w:Value} (r:fC c S (cY B c h) x w){Kv:KV}{K:VK} (k:KR P B Sb c h S Kv K) (hv:Np x h Kv):Lg w S K=true:=by
 unfold Np at hv;split at hv
 ·rename_i i
  cases r with
  | ptr hZ=>
   rename_i bb;split at hv
   ·rename_i m since seen last ei
    split at hv
    ·rename_i es bs ck em
     obtain⟨rfl,hp,j,e,b0,h1,h2,h3,hv⟩:=hv;obtain⟨b,rr,a1,a2,a3⟩:=s.iter ei;rw [hZ]at a1;injection a1 with a1;subst a1;obtain⟨b2,iD,c1,c2,c3,c4,c5⟩:=s.TW em;rw [a3]at c1;injection c1 with c1;subst c1;show nV S.h _ _=true;have a2':S.h.get _=some (.iter (some rr) since seen ck):=a2;have c2':S.h.get rr=some (.map iD ck):=c2;rw [lB,a2'];show nV S.h rr _=true;rw [lB,c2'];have hcc:Nat.beq ck ck=true:=by simp
     have hlt:Qh seen (fun b=>Ik b iD fun _ e=>K (.tuple ⟨[e.key,e.val]⟩) S)=Ik b0 iD fun _ e=>K (.tuple ⟨[e.key,e.val]⟩) S:=aFS h3;simp only [hcc];rw [hlt];have hj:j<iD.length:=by rw [<-c5.1];exact(cZ.1 h1).1
     have hb:iD[j].born=b0:=by
      rw [<-c3,lA,aS hj]at h2;exact Option.some.inj h2
     rw [aFT c4.1 (aS hj) hb];obtain⟨q1,q2⟩:=c5.2 j _ _ h1 (aS hj);have rl:kE c S (cY B c h) [e.1,e.2] [iD[j].key,iD[j].val]:= .cons q1 (.cons q2 .nil);exact k.here s (.tuple rl.len rl.rd) hv
    ·cases hv
   ·cases hv
 ·cases hv
theorem aFG{op:BinOp}{t:TypeId}{a b:V}{u w:Value} (r:fC c S C a u) (q:fC c S C b w){Kv:V->Prop}{K:Value->Bool} (k:∀v w,fC c S C v w->Kv v->K w=true) (hv:aKv P op t a b Kv):aEu P op t u w K=true:=by
 rw [IY];unfold aKv at hv;split at hv
 ·rename_i l hl
  cases r<;>try (cases hv;done)
  rename_i xs xs' la rxa;cases q<;>try (cases hv;done)
  rename_i ys ys' lb ryb;obtain⟨ox,oy,hv⟩:=hv;unfold Fb at hl;split at hl
  ·cases hl
  ·split at hl
   ·rename_i fs hfs
    split at hl
    ·rename_i l' Qk
     injection hl with hl;injection hl with hl;subst hl
     have eq:∀kk:Bool->Bool,∃e:Bool,(e=true↔xs=ys)/\nX P t (.agg ⟨xs'⟩) (.agg ⟨ys'⟩) kk=kk e:=fun kk=>by
      obtain⟨e,g1,g2⟩:=aFP (k:=kk) Qk ⟨la,rxa⟩ ⟨lb,ryb⟩ ox oy;refine⟨e,g1,?_⟩;unfold nX;simp only [hfs];exact g2
     cases op<;>first | (cases hv;done) | skip
     ·show nX P t (.agg ⟨xs'⟩) (.agg ⟨ys'⟩) (fun e=>mX e K)=true
      obtain⟨e,g1,g2⟩:=eq fun e=>mX e K;rw [g2,pD];cases e with
      | true=>exact k _ _ .bool (hv.1 (g1.1 rfl))
      | false=>exact k _ _ .bool (hv.2 fun h=>by have:=g1.2 h;cases this)
     ·show nX P t (.agg ⟨xs'⟩) (.agg ⟨ys'⟩) (fun e=>mX (!e) K)=true
      obtain⟨e,g1,g2⟩:=eq fun e=>mX (!e) K;rw [g2,pD];cases e with
      | true=>exact k _ _ .bool (hv.1 (g1.1 rfl))
      | false=>exact k _ _ .bool (hv.2 fun h=>by have:=g1.2 h;cases this)
    ·cases hl
   ·cases hl
 ·cases hv
end
end Go.Am
