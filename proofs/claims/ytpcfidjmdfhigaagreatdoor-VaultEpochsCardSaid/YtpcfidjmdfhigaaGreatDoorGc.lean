/- AM: the operations with their types made out: the same as they are. -/
import Derived.Test.YtpcfidjmdfhigaaGreatDoorGb

noncomputable section
namespace Go.Am
open Go.RowKit Go.MapKept
section
variable{P:Program}
theorem Ik{t:TypeId} (h:xI P t=some false) (a:Value) (S:St) (K:VK):PO P t a S K=rLd a S K:=by
 unfold PO rLd;simp only [h]<;>rfl
theorem Il{t:TypeId}{n:Nat} (h:xI P t=some true) (hn:cN P t=some n) (a:Value) (S:St) (K:VK):PO P t a S K=aIb n a S K:=by
 unfold PO aIb;simp only [h,hn]<;>rfl
theorem aBz{t:TypeId}{n:Nat} (hn:cN P t=some n) (a x:Value) (S:St) (k:St->Bool):Bx P t a x S k=rSt n a x S k:=by
 unfold Bx rSt;simp only [hn]<;>rfl
theorem aBA{t:TypeId}{z:List Value} (hz:wM P t=some z) (hf:xH bW z=true) (S:St) (K:VK):VT P t S K=Im z t S K:=by
 unfold VT Im;simp only [hz,hf]
theorem Ew{s:TypeId}{f:Nat}{fd:Field}{n:Nat} (hf:DB P s f=some fd) (hn:cN P fd.type=some (n+1)) (x:Value) (K:Value->Bool):FO P s x f K=aIc fd.offset x K:=by
 unfold FO aIc;simp only [hf,hn]<;>rfl
theorem Pt{t:TypeId}{f:Nat}{fd:Field} (hf:DB P t f=some fd) (h:xI P fd.type=some false) (x:Value) (K:Value->Bool):VQ P t x f K=Pu fd.offset x K:=by
 unfold VQ Pu;simp only [hf,Uv,h]<;>rfl
theorem Pv{t:TypeId}{f:Nat}{fd:Field}{n:Nat} (hf:DB P t f=some fd) (h:xI P fd.type=some true) (hn:cN P fd.type=some n) (x:Value) (K:Value->Bool):VQ P t x f K=Ex fd.offset n x K:=by
 unfold VQ Ex;simp only [hf,Uv,h,hn]<;>rfl
theorem Ey{t e:TypeId}{n:Nat} (he:isSlice P t=some e) (hn:cN P e=some n) (x ix:Value) (K:Value->Bool):FN P t x ix K=aLw n x ix K:=by
 unfold FN aLw;simp only [he,hn,Ju he];cases ix<;>first | rfl | skip
 rename_i kk i;cases i<;>first | rfl | skip
 rename_i i;cases x<;>first | rfl | skip
 ·rename_i b;cases b<;>first | rfl | (rename_i a;obtain⟨b,o,sp⟩:=a;cases sp<;>rfl)
 ·rename_i b len cap;cases b with
  | none=>rfl
  | some a=>
   obtain⟨b,o,sp⟩:=a
   match sp with
   | none=>simp only;cases Nat.blt i len<;>rfl
   | some 0=>simp only;cases Nat.blt i len<;>rfl
   | some (_+1)=>rfl
theorem aId{t e:TypeId} (he:isSlice P t=some e) (x:Value) (S:St) (K:VK):oL P .len [t] [x] S K=aEM x fun v=>K v S:=by
 have hu:=Ju he;have hm:IJ P t=none:=by unfold IJ;rw [hu]
 cases x<;>simp only [oL,aEM,he,hu,hm]
theorem aIe{t:TypeId} (hu:P.underlying t=some .string) (x:Value) (S:St) (K:VK):oL P .len [t] [x] S K=aBB x fun v=>K v S:=by
 have hs:isSlice P t=none:=by unfold isSlice;rw [hu]
 have hm:IJ P t=none:=by unfold IJ;rw [hu]
 cases x<;>simp only [oL,aBB,hs,hu,hm]
theorem Vr{sT xT el:TypeId}{info:TypeInfo}{n:Nat}{z:Value} (h1:isSlice P sT=some el) (h2:Sw (P.underlying xT)=true) (h3:P.info? el=some info) (h4:info.size=n+1) (h5:info.zero=some z) (h6:Nat.beq z.cells.size (n+1)=true)
 (s x:Value) (S:St) (K:VK):RO P [sT,xT] s x S K=aDb P el (n+1) info.bytes s x S K:=by
 unfold RO aDb;simp only [h1,h2,h3,h4,h5];cases s<;>simp only [h6]<;>rfl
end
def fbk (o:Oper):OpW:=⟨fun E A S K=>AD E o A S K⟩
structure PtW where
 f:bC->(List (Nat×Nat×Value)->Bool)->Bool
def LI (place:Nat->Option (Nat×Nat)) (ps:List (Nat×Operand)):PtW:=
 gW (β:=PtW) ⟨fun _ k=>k []⟩ (fun p _ ih=>match place p.1 with
  | some (off,size)=>⟨fun A k=>(AQ p.2).f A fun v=>ih.f A fun l=>k ((off,size,v)::l)⟩
  | none=>⟨fun _ _=>false⟩) ps
def Li (place:Nat->Option (Nat×Nat)) (p:Nat×Value):Nat×Nat×Value:=match place p.1 with | some (off,size)=>(off,size,p.2) | none=>(0,0,p.2)
theorem aDc (place:Nat->Option (Nat×Nat)) (A:bC):∀(ps:List (Nat×Operand)) (k:List (Nat×Nat×Value)->Bool),(∀p∈ps,(place p.1).isSome=true)->(LI place ps).f A k=IH A ps fun l=>k (l.map (Li place)):=by
 intro ps;induction ps with
 | nil=>intro k _;rfl
 | cons p ps ih=>
  intro k h;have hp:=h p (.head _);obtain⟨⟨off,size⟩,hq⟩:=Option.isSome_iff_exists.1 hp
  have e1:LI place (p::ps)=⟨fun A k=>(AQ p.2).f A fun v=>(LI place ps).f A fun l=>k ((off,size,v)::l)⟩:=by
   unfold LI;rw [bU];simp only [hq]
  rw [e1];show(AQ p.2).f A _=vM A p.2 fun v=>IH A ps fun l=>k (((p.1,v)::l).map (Li place));rw [kU]
  congr 1
  funext v
  have e:∀l:List (Nat×Value),((p.1,v)::l).map (Li place)=(off,size,v)::l.map (Li place):=fun l=>by simp [Li,hq]
  simp only [e];exact ih (fun l=>k ((off,size,v)::l)) (fun q hq=>h q (.tail _ hq))
theorem Yo (A:bC):∀(ps:List (Nat×Operand)) (k k':List (Nat×Value)->Bool),(∀l,l.map Prod.fst=ps.map Prod.fst->k l=k' l)->IH A ps k=IH A ps k':=by
 intro ps;induction ps with
 | nil=>intro k k' h;exact h [] rfl
 | cons p ps ih=>
  intro k k' h;show(vM A p.2 fun v=>IH A ps fun l=>k ((p.1,v)::l))=vM A p.2 fun v=>IH A ps fun l=>k' ((p.1,v)::l)
  congr 1
  funext v
  exact ih _ _ fun l hl=>h _ (by simp [hl])
theorem aLx (place:Nat->Option (Nat×Nat)) (k:List Value->Bool):∀(l:List (Nat×Value)) (cs:List Value),(∀p∈l,(place p.1).isSome=true)->ZX place l cs k=WY (l.map (Li place)) cs k:=by
 intro l;induction l with
 | nil=>intro cs _;rfl
 | cons p l ih=>
  intro cs h;obtain⟨⟨off,size⟩,hq⟩:=Option.isSome_iff_exists.1 (h p (.head _))
  have e1:ZX place (p::l) cs k=match place p.1 with
   | some (off,size)=>pM p.2 fun new=>KQ new fun m=>match Nat.beq m size with
    | true=>sU off new cs fun cs=>ZX place l cs k
    | false=>false
   | none=>false:=rfl
  have e2:WY ((off,size,p.2)::l.map (Li place)) cs k=pM p.2 fun new=>KQ new fun m=>match Nat.beq m size with
   | true=>sU off new cs fun cs=>WY (l.map (Li place)) cs k
   | false=>false:=rfl
  have e3:(p::l).map (Li place)=(off,size,p.2)::l.map (Li place):=by simp [Li,hq]
  have ih':(fun cs=>ZX place l cs k)=fun cs=>WY (l.map (Li place)) cs k:=by funext cs;exact ih cs fun q hq=>h q (.tail _ hq)
  rw [e1,e3,e2,hq,ih']
theorem Yp (place:Nat->Option (Nat×Nat)) (A:bC) (ps:List (Nat×Operand)) (cs:List Value) (k:List Value->Bool) (h:∀p∈ps,(place p.1).isSome=true):
 (IH A ps fun l=>ZX place l cs k)=(LI place ps).f A fun l=>WY l cs k:=by
 rw [aDc place A ps _ h];refine Yo A ps _ _ fun l hl=>aLx place k l cs fun p hp=>?_;have:p.1∈ps.map Prod.fst:=by rw [<-hl];exact List.mem_map.2 ⟨p,hp,rfl⟩
 obtain⟨q,hq,e⟩:=List.mem_map.1 this;rw [<-e];exact h q hq
def aIf (P:Program) (c:Call):OpW:=
 match c.callee with
 | .builtin .len=>match c.argTypes.toList,c.args.toList with
  | [t],[a]=>match isSlice P t,P.underlying t with
   | some _,_=>⟨fun _ A S K=>(AQ a).f A fun v=>aEM v fun v=>K v S⟩
   | none,some .string=>⟨fun _ A S K=>(AQ a).f A fun v=>aBB v fun v=>K v S⟩
   | _,_=>WM P c
  | _,_=>WM P c
 | .builtin .append=>match c.argTypes.toList,c.args.toList with
  | [sT,xT],[a,b]=>match isSlice P sT,Sw (P.underlying xT)with
   | some el,true=>match P.info? el with
    | some info=>match info.size,info.zero with
     | n+1,some z=>match Nat.beq z.cells.size (n+1)with
      | true=>⟨fun _ A S K=>(AQ a).f A fun a=>(AQ b).f A fun b=>aDb P el (n+1) info.bytes a b S K⟩
      | false=>WM P c
     | _,_=>WM P c
    | none=>WM P c
   | _,_=>WM P c
  | _,_=>WM P c
 | .builtin _=>WM P c
 | .value f=>⟨fun E A S K=>(aCU c.args.toList).f A fun args=>(AQ f).f A fun f=>aOh E.call E.round f args S K⟩
 | .invoke r m=>⟨fun E A S K=>(aCU c.args.toList).f A fun args=>(AQ r).f A fun v=>aSi P E.call v m args S K⟩
theorem aIg (E:Env) (c:Call) (A:bC) (S:St) (K:VK):(aIf E.P c).f E A S K=mX E A c S K:=by
 unfold aIf;split
 ·rename_i hc
  split
  ·rename_i t a ht ha
   split
   ·rename_i _ _ e hs
    unfold mX;rw [hc,ha,ht];simp only [kU,VP,bU,vP,aId hs]
   ·rename_i _ _ hs hu
    unfold mX;rw [hc,ha,ht];simp only [kU,VP,bU,vP,aIe hu]
   ·exact DN E c A S K
  ·exact DN E c A S K
 ·rename_i hc
  split
  ·rename_i sT xT a b ht ha
   split
   ·rename_i el hs hx
    split
    ·rename_i info hi
     split
     ·rename_i n z hn hz
      split
      ·rename_i Xk
       unfold mX;rw [hc,ha,ht];simp only [kU,VP,bU,vP]
       congr 1;funext a;congr 1;funext b
       exact(Vr hs hx hi hn hz Xk a b S K).symm
      ·exact DN E c A S K
     ·exact DN E c A S K
    ·exact DN E c A S K
   ·exact DN E c A S K
  ·exact DN E c A S K
 ·exact DN E c A S K
 ·rename_i f hc
  unfold mX;rw [hc];simp only [Eh,kU]<;>rfl
 ·rename_i r m hc
  unfold mX;rw [hc];simp only [Eh,kU]<;>rfl
def opX (P:Program) (o:Oper):OpW:=
 match o.op with
 | .pick c a b=>⟨fun E A S K=>(AQ c).f A fun c=>(AQ a).f A fun a=>(AQ b).f A fun b=>shut E.most (aNg c a b fun v=>K v S)⟩
 | .alloc t=>match wM P t with
  | some z=>match xH bW z with
   | true=>⟨fun _ _ S K=>Im z t S K⟩
   | false=>fbk o
  | none=>fbk o
 | .build t ps=>match wM P t,P.underlying t with
  | some zero,some (.struct fields)=>match placesOf P fields.toList with
   | some pl=>match xH bW zero,ps.toList.all fun p=>(pl[p.1]?).isSome with
    | true,true=>⟨fun _ A S K=>(LI (pl[·]?) ps.toList).f A fun l=>aDd zero l fun v=>K v S⟩
    | _,_=>fbk o
   | none=>fbk o
  | some zero,some (.array _ elem)=>match cN P elem with
   | some size=>match xH bW zero with
    | true=>⟨fun _ A S K=>(LI (fun i=>some (i*size,size)) ps.toList).f A fun l=>aDd zero l fun v=>K v S⟩
    | false=>fbk o
   | none=>fbk o
  | _,_=>fbk o
 | .buildSlice t len ps=>match isSlice P t with
  | some elem=>match cN P elem,wM P elem with
   | some (size+1),some zero=>match Nat.ble (len*(size+1)) 16777216,Nat.beq zero.length (size+1)with
    | true,true=>match xH bW zero with
     | true=>⟨fun _ A S K=>aAL zero len fun cs=>(LI (fun i=>some (i*(size+1),size+1)) ps.toList).f A fun l=>WY l cs fun cs=>zB S (.cells cs elem .exact) fun i S=>K (.slice (some ⟨i,0,none⟩) len len) S⟩
     | false=>fbk o
    | _,_=>fbk o
   | _,_=>fbk o
  | none=>fbk o
 | .load t a=>match xI P t,cN P t with
  | some false,_=>⟨fun _ A S K=>(AQ a).f A fun a=>rLd a S K⟩
  | some true,some n=>⟨fun _ A S K=>(AQ a).f A fun a=>aIb n a S K⟩
  | _,_=>fbk o
 | .store t a x=>match cN P t with
  | some n=>⟨fun _ A S K=>(AQ a).f A fun a=>(AQ x).f A fun x=>rSt n a x S fun S=>K undef S⟩
  | none=>fbk o
 | .nilCheck x=>⟨fun _ A S K=>(AQ x).f A fun v=>aLy P v fun v=>K v S⟩
 | .binOp op t x y _=>⟨fun _ A S K=>(AQ x).f A fun a=>(AQ y).f A fun b=>aIh P op t a b fun v=>K v S⟩
 | .convert s d x=>match P.underlying s,P.underlying d with
  | some (.int _),some (.int k)=>⟨fun _ A S K=>(AQ x).f A fun a=>aIi k a fun v=>K v S⟩
  | _,_=>opW P o
 | .fieldAddr s x f=>match DB P s f with
  | some fd=>match cN P fd.type with
   | some (_+1)=>⟨fun _ A S K=>(AQ x).f A fun x=>aIc fd.offset x fun v=>K v S⟩
   | _=>opW P o
  | none=>opW P o
 | .field t x f=>match DB P t f with
  | some fd=>match xI P fd.type,cN P fd.type with
   | some false,_=>⟨fun _ A S K=>(AQ x).f A fun x=>Pu fd.offset x fun v=>K v S⟩
   | some true,some n=>⟨fun _ A S K=>(AQ x).f A fun x=>Ex fd.offset n x fun v=>K v S⟩
   | _,_=>opW P o
  | none=>opW P o
 | .indexAddr t x ix=>match isSlice P t with
  | some el=>match cN P el with
   | some n=>⟨fun _ A S K=>(AQ x).f A fun x=>(AQ ix).f A fun ix=>aLw n x ix fun v=>K v S⟩
   | none=>opW P o
  | none=>opW P o
 | .index t x ix=>match P.underlying t with
  | some .string=>⟨fun _ A S K=>(AQ x).f A fun x=>(AQ ix).f A fun ix=>Yq x ix fun v=>K v S⟩
  | _=>opW P o
 | .extract t i=>⟨fun _ A S K=>(AQ t).f A fun v=>aIj i v fun v=>K v S⟩
 | .typeAssert x _ as ok=>⟨fun _ A S K=>(AQ x).f A fun v=>aEN P as ok v fun v=>K v S⟩
 | .call c=>aIf P c
 | _=>opW P o
theorem aEO{P:Program}{s d:TypeId}{j k:IntKind} (hs:P.underlying s=some (.int j)) (hd:P.underlying d=some (.int k)) (x:Value) (S:St) (K:VK):Jn P s d x S K=aIi k x fun v=>K v S:=by
 cases x<;>simp only [Jn,aIi,hs,hd];rename_i b n c;cases b with
 | none=>rfl
 | some a=>obtain⟨b,o,sp⟩:=a;match sp with
  | none=>rfl
  | some 0=>rfl
  | some (_+1)=>rfl
theorem aBC{P:Program}{t:TypeId} (h:P.underlying t=some .string) (x ix:Value) (K:Value->Bool):Hu P t x ix K=Yq x ix K:=by
 unfold Hu Yq;simp only [h];cases ix<;>first | rfl | skip
 rename_i kk i;cases i<;>first | rfl | skip
 cases x<;>rfl
theorem WZ (E:Env) (o:Oper) (A:bC) (S:St) (K:VK):(opX E.P o).f E A S K=AD E o A S K:=by
 unfold opX;split
 ·rename_i c a b h;unfold AD;rw [h];simp only [kU,Mx,aNg]<;>rfl
 ·rename_i t h
  split
  ·rename_i z hz
   split
   ·rename_i hf;unfold AD;rw [h];exact(aBA hz hf S K).symm
   ·rfl
  ·rfl
 ·rename_i t ps h
  split
  ·rename_i zero fields hz hu
   split
   ·rename_i pl hp
    split
    ·rename_i hf ha
     unfold AD;rw [h];simp only [Nx,hz,hu,hp,hf];refine(Yp (pl[·]?) A ps.toList zero (fun cs=>K (.agg ⟨cs⟩) S) ?_).symm;intro p hp';exact List.all_eq_true.1 ha p hp'
    ·rfl
   ·rfl
  ·rename_i zero n elem hz hu
   split
   ·rename_i size hs
    split
    ·rename_i hf
     unfold AD;rw [h];simp only [Nx,hz,hu,hs,hf];exact(Yp (fun i=>some (i*size,size)) A ps.toList zero (fun cs=>K (.agg ⟨cs⟩) S) (fun p _=>rfl)).symm
    ·rfl
   ·rfl
  ·rfl
 ·rename_i t len ps h
  split
  ·rename_i elem hs
   split
   ·rename_i size zero hz Mp
    split
    ·rename_i h1 h2
     split
     ·rename_i hf
      unfold AD;rw [h];simp only [BY,hs,hz,Mp,h1,h2,hf]
      congr 1;funext cs
      exact(Yp (fun i=>some (i*(size+1),size+1)) A ps.toList cs _ (fun p _=>rfl)).symm
     ·rfl
    ·rfl
   ·rfl
  ·rfl
 ·rename_i t a h
  split
  ·rename_i h1;unfold AD;rw [h];simp only [kU,Ik h1]
  ·rename_i n h1 h2;unfold AD;rw [h];simp only [kU,Il h1 h2]
  ·rfl
 ·rename_i t a x h
  split
  ·rename_i n h1;unfold AD;rw [h];simp only [kU,aBz h1]
  ·rfl
 ·rename_i x h;unfold AD;rw [h];simp only [kU,aLy]<;>rfl
 ·rename_i op t x y yt h;unfold AD;rw [h];simp only [kU,SK]
 ·rename_i s d x h
  split
  ·rename_i j k h1 h2;unfold AD;rw [h];simp only [kU,aEO h1 h2]
  ·exact FW E o A S K
 ·rename_i s x f h
  split
  ·rename_i fd h1
   split
   ·rename_i n h2;unfold AD;rw [h];simp only [kU,Ew h1 h2]
   ·exact FW E o A S K
  ·exact FW E o A S K
 ·rename_i t x f h
  split
  ·rename_i fd h1
   split
   ·rename_i h2;unfold AD;rw [h];simp only [kU,Pt h1 h2]
   ·rename_i n h2 h3;unfold AD;rw [h];simp only [kU,Pv h1 h2 h3]
   ·exact FW E o A S K
  ·exact FW E o A S K
 ·rename_i t x ix h
  split
  ·rename_i el h1
   split
   ·rename_i n h2;unfold AD;rw [h];simp only [kU,Ey h1 h2]
   ·exact FW E o A S K
  ·exact FW E o A S K
 ·rename_i t x ix h
  split
  ·rename_i h1;unfold AD;rw [h];simp only [kU,aBC h1]
  ·exact FW E o A S K
 ·rename_i t i h;unfold AD;rw [h];simp only [kU,aIj]<;>rfl
 ·rename_i x xt as ok h;unfold AD;rw [h];simp only [kU,aEN]<;>rfl
 ·rename_i c h;unfold AD;rw [h];exact aIg E c A S K
 ·exact FW E o A S K
def aIk (v:Value) (T:Tm) (i:Nat) (k:Tm->Bool):Bool:=match T with
 | ⟨t,n⟩=>match Nat.blt i n with
  | true=>ZF v (Nat.succ i) t i fun t=>k ⟨t,n⟩
  | false=>false
theorem aIl (v:Value) (T:Tm) (i:Nat) (k:Tm->Bool):aIk v T i k=uC v T i k:=by cases T;rfl
def aOi (A:bC) (d:Tmp) (v:Value) (k:bC->Bool):Bool:=match A with
 | ⟨T,m,g⟩=>aIk v T d fun T=>k ⟨T,m,g⟩
theorem aEP (A:bC) (d:Tmp) (v:Value) (k:bC->Bool):aOi A d v k=uC v A.tmps d fun ts=>k ⟨ts,A.marks,A.g⟩:=by
 obtain⟨T,m,g⟩:=A;show aIk v T d (fun T=>k ⟨T,m,g⟩)=_;rw [aIl]
def aIm (P:Program) (o:Oper):Pb:=
 match o.dst with
 | some d=>⟨fun E A S k=>(opX P o).f E A S fun v S=>aOi A d v fun A=>k A S⟩
 | none=>⟨fun E A S k=>(opX P o).f E A S fun _ S=>k A S⟩
def doX (P:Program) (ops:Array Oper) (o:Oper):Pb:=
 match o.guard with
 | none=>aIm P o
 | some (j,w)=>match ops[j]? with
  | some o'=>match o'.dst with
   | some g=>match o.dst with
    | some d=>⟨fun E A S k=>YJ A.tmps g fun b=>shut E.most (Yr w b (fun k=>(opX P o).f E A S k) S fun v S=>aOi A d v fun A=>k A S)⟩
    | none=>⟨fun E A S k=>YJ A.tmps g fun b=>shut E.most (Yr w b (fun k=>(opX P o).f E A S k) S fun _ S=>k A S)⟩
   | none=>⟨fun E A S k=>Ca E ops o A S k⟩
  | none=>⟨fun E A S k=>Ca E ops o A S k⟩
theorem aIn (E:Env) (o:Oper) (A:bC) (S:St) (k:KS):(aIm E.P o).f E A S k=AD E o A S fun v S=>mJ A o.dst v fun A=>k A S:=by
 unfold aIm mJ;cases o.dst<;>simp only [WZ,aEP]
theorem Pw (E:Env) (ops:Array Oper) (o:Oper) (A:bC) (S:St) (k:KS):(doX E.P ops o).f E A S k=Ca E ops o A S k:=by
 unfold doX;cases hg:o.guard with
 | none=>
  simp only [aIn];unfold Ca DC;rw [hg];rfl
 | some jw=>
  obtain⟨j,w⟩:=jw;simp only;cases ho:ops[j]? with
  | none=>rfl
  | some o'=>
   simp only;cases hd':o'.dst with
   | none=>rfl
   | some g=>
    simp only;cases hd:o.dst with
    | none=>
     unfold Ca DC mJ;simp only [hg,ho,hd',hd,WZ,Mx,Yr,Kk]<;>rfl
    | some d=>
     unfold Ca DC mJ;simp only [hg,ho,hd',hd,WZ,aEP,Mx,Yr,Kk]<;>rfl
def aOj (P:Program) (ops:Array Oper) (l:List Oper):Pb:=
 gW (β:=Pb) ⟨fun _ A S k=>k A S⟩ (fun o _ ih=>⟨fun E A S k=>(doX P ops o).f E A S fun A S=>ih.f E A S k⟩) l
theorem aLz (E:Env) (ops:Array Oper):∀(l:List Oper) (A:bC) (S:St) (k:KS),(aOj E.P ops l).f E A S k=ZH E ops l A S k:=by
 intro l;induction l with
 | nil=>intro A S k;rfl
 | cons o l ih=>
  intro A S k;show(doX E.P ops o).f E A S (fun A S=>(aOj E.P ops l).f E A S k)=Ca E ops o A S fun A S=>ZH E ops l A S k;rw [Pw]
  congr 1
  funext A S
  exact ih A S k
def aGs (o:Oper) (d:Tmp) (ops:Array Oper) (ih:ChW):ChW:=⟨fun E A S k=>YJ A.tmps d fun u=>DC ops o A fun b=>fX b (AD E o A S fun v _=>match TS v u with | true=>ih.f E A S k | false=>false) (match u with | .tuple ⟨[]⟩=>ih.f E A S k | _=>false)⟩
def Px (P:Program) (ops:Array Oper) (l:List Nat):ChW:=
 gW (β:=ChW) ⟨fun _ _ _ k=>k⟩ (fun i _ ih=>match ops[i]? with
  | some o=>match o.dst with
   | some d=>match o.guard with
    | none=>⟨fun E A S k=>YJ A.tmps d fun u=>(opX P o).f E A S fun v _=>Vs v u (ih.f E A S k)⟩
    | some (j,w)=>match ops[j]? with
     | some o'=>match o'.dst with
      | some g=>⟨fun E A S k=>YJ A.tmps d fun u=>YJ A.tmps g fun b=>shut E.most (Ys w b u (fun k=>(opX P o).f E A S fun v _=>Vs v u k) (ih.f E A S k))⟩
      | none=>aGs o d ops ih
     | none=>aGs o d ops ih
   | none=>⟨fun _ _ _ _=>false⟩
  | none=>⟨fun _ _ _ _=>false⟩) l
theorem aGt (P:Program) (ops:Array Oper) (i:Nat) (l:List Nat):Px P ops (i::l)=match ops[i]? with
 | some o=>match o.dst with
  | some d=>match o.guard with
   | none=>⟨fun E A S k=>YJ A.tmps d fun u=>(opX P o).f E A S fun v _=>Vs v u ((Px P ops l).f E A S k)⟩
   | some (j,w)=>match ops[j]? with
    | some o'=>match o'.dst with
     | some g=>⟨fun E A S k=>YJ A.tmps d fun u=>YJ A.tmps g fun b=>shut E.most (Ys w b u (fun k=>(opX P o).f E A S fun v _=>Vs v u k) ((Px P ops l).f E A S k))⟩
     | none=>aGs o d ops (Px P ops l)
    | none=>aGs o d ops (Px P ops l)
  | none=>⟨fun _ _ _ _=>false⟩
 | none=>⟨fun _ _ _ _=>false⟩:=rfl
theorem Yt (E:Env) (ops:Array Oper) (A:bC) (S:St) (k:Bool):∀(l:List Nat),(Px E.P ops l).f E A S k=zC E ops A S l k:=by
 intro l;induction l with
 | nil=>rfl
 | cons i l ih=>
  rw [aGt,Ic];cases hi:ops[i]? with
  | none=>rfl
  | some o=>
   simp only;cases hd:o.dst with
   | none=>rfl
   | some d=>
    simp only;cases hg:o.guard with
    | none=>
     simp only [WZ,ih,DC,hg,Vs];rfl
    | some jw=>
     obtain⟨j,w⟩:=jw;simp only;cases hj:ops[j]? with
     | none=>simp only [aGs,ih]<;>rfl
     | some o'=>
      simp only;cases hd':o'.dst with
      | none=>simp only [aGs,ih]<;>rfl
      | some g=>simp only [WZ,ih,DC,hg,hj,hd',Mx,Ys,Kk,Vs,aQn]<;>rfl
def aLA (P:Program) (ops:Array Oper) (i:Nat) (o:Oper):OpW:=match eV P ops i with
 | none=>opX P o
 | some _=>⟨fun E A S K=>IM E ops i o A S K⟩
theorem aEQ (E:Env) (ops:Array Oper) (i:Nat) (o:Oper) (A:bC) (S:St) (K:VK):(aLA E.P ops i o).f E A S K=IM E ops i o A S K:=by
 unfold aLA;cases h:eV E.P ops i with
 | none=>simp only [WZ];unfold IM;rw [h]
 | some j=>rfl
def Vt (P:Program) (ops:Array Oper) (l:List Nat):Pb:=
 gW (β:=Pb) ⟨fun _ A S k=>k A S⟩ (fun i _ ih=>match ops[i]? with
  | some o=>⟨fun E A S k=>(aLA P ops i o).f E A S fun v S=>aN3 o.dst v A fun A=>ih.f E A S k⟩
  | none=>⟨fun _ _ _ _=>false⟩) l
theorem Ez (E:Env) (ops:Array Oper):∀(l:List Nat) (A:bC) (S:St) (k:KS),(Vt E.P ops l).f E A S k=nW E ops l A S k:=by
 intro l;induction l with
 | nil=>intro A S k;rfl
 | cons i l ih=>
  intro A S k;unfold Vt nW at ih ⊢;rw [bU,bU];cases ops[i]? with
  | none=>rfl
  | some o=>
   simp only [aEQ,aEK]
   congr 1
   funext v S
   congr 1
   funext A
   exact ih A S k
def aIo (P:Program) (ops:Array Oper) (l:List (Nat×List Nat)):ChW:=
 gW (β:=ChW) ⟨fun _ _ _ k=>k⟩ (fun p _ ih=>match ops[p.1]? with
  | some o=>⟨fun E A S k=>aCY A o (fX ((Vt P ops p.2).f E A S fun A S=>(aLA P ops p.1 o).f E A S fun _ _=>true) (ih.f E A S k) false)⟩
  | none=>⟨fun _ _ _ _=>false⟩) l
theorem Yu (E:Env) (ops:Array Oper) (A:bC) (S:St) (k:Bool):∀(l:List (Nat×List Nat)),(aIo E.P ops l).f E A S k=UV E ops A S l k:=by
 intro l;induction l with
 | nil=>rfl
 | cons p l ih=>
  unfold aIo UV at ih ⊢;rw [bU,bU];cases ops[p.1]? with
  | none=>rfl
  | some o=>simp only [Ez,aEQ,ih]
def Fa (P:Program) (ops:Array Oper) (l:List yT):Pb:=
 gW (β:=Pb) ⟨fun _ _ _ _=>false⟩ (fun s _ ih=>match s with
  | .take i=>match ops[i]? with
   | some o=>⟨fun E A S k=>(doX P ops o).f E A S fun A S=>ih.f E A S k⟩
   | none=>⟨fun _ _ _ _=>false⟩
  | .Vj BO nB D r FX=>match ops[r]? with
   | some o=>⟨fun E A S k=>(Px P ops BO).f E A S ((aIo P ops nB).f E A S ((Vt P ops D).f E A S fun A S=>(doX P ops o).f E A S fun A S=>(Px P ops FX).f E A S (ih.f E A S k)))⟩
   | none=>⟨fun _ _ _ _=>false⟩
  | .fin BO nB D=>⟨fun E A S k=>(Px P ops BO).f E A S ((aIo P ops nB).f E A S ((Vt P ops D).f E A S k))⟩) l
theorem Cl (E:Env) (ops:Array Oper):∀(l:List yT) (A:bC) (S:St) (k:KS),(Fa E.P ops l).f E A S k=mE E ops l A S k:=by
 intro l;induction l with
 | nil=>intro A S k;rfl
 | cons s l ih=>
  intro A S k;unfold Fa mE at ih ⊢;rw [bU,bU];cases s with
  | take i=>
   simp only;cases ops[i]? with
   | none=>rfl
   | some o=>simp only [Pw,ih]
  | Vj BO nB D r FX=>
   simp only;cases ops[r]? with
   | none=>rfl
   | some o=>simp only [Pw,Yt,Yu,Ez,ih]
  | fin BO nB D=>simp only [Yt,Yu,Ez]
def Fb (P:Program) (ops:Array Oper) (l:List yT):Pb:=
 gW (β:=Pb) ⟨fun _ A S k=>k A S⟩ (fun s _ ih=>match s with
  | .take i=>match ops[i]? with
   | some o=>⟨fun E A S k=>(doX P ops o).f E A S fun A S=>ih.f E A S k⟩
   | none=>⟨fun _ _ _ _=>false⟩
  | .Vj BO nB D r FX=>match ops[r]? with
   | some o=>⟨fun E A S k=>(Px P ops BO).f E A S ((aIo P ops nB).f E A S ((Vt P ops D).f E A S fun A S=>(doX P ops o).f E A S fun A S=>(Px P ops FX).f E A S (ih.f E A S k)))⟩
   | none=>⟨fun _ _ _ _=>false⟩
  | .fin _ _ _=>⟨fun _ _ _ _=>false⟩) l
theorem aBD (E:Env) (ops:Array Oper):∀(l:List yT) (A:bC) (S:St) (k:KS),(Fb E.P ops l).f E A S k=yG E ops l A S k:=by
 intro l;induction l with
 | nil=>intro A S k;rfl
 | cons s l ih=>
  intro A S k;unfold Fb yG at ih ⊢;rw [bU,bU];cases s with
  | take i=>
   simp only;cases ops[i]? with
   | none=>rfl
   | some o=>simp only [Pw,ih]
  | Vj BO nB D r FX=>
   simp only;cases ops[r]? with
   | none=>rfl
   | some o=>simp only [Pw,Yt,Yu,Ez,ih]
  | fin BO nB D=>rfl
def aDe (P:Program) (p:WW):Array Oper->Pb:=
 WW.rec (motive:=fun _=>Array Oper->Pb) (fun l ops=>Fa P ops l) (fun l g t b _ ih ops=>⟨fun E A S k=>(Fb P ops l).f E A S fun A S=>Eu A t b ((ih (eS ops g b)).f E A S k)⟩) p
theorem aGu (E:Env):∀(p:WW) (ops:Array Oper) (A:bC) (S:St) (k:KS),(aDe E.P p ops).f E A S k=WX E p ops A S k:=by
 intro p;induction p with
 | fin l=>intro ops A S k;exact Cl E ops l A S k
 | cut l g t b r ih=>
  intro ops A S k;show(Fb E.P ops l).f E A S (fun A S=>Eu A t b ((aDe E.P r (eS ops g b)).f E A S k))=yG E ops l A S fun A S=>Eu A t b (WX E r (eS ops g b) A S k);rw [aBD]
  congr 1
  funext A S
  rw [ih]
def aGv (P:Program) (ops:Array Oper) (draw:Bool):Pb:=
 match draw with
 | true=>match Er P ops with
  | some l=>match PY l with
   | []=>Fa P ops l
   | ls=>⟨fun E A S k=>WO ops ls A fun A=>(Fa P ops l).f E A S k⟩
  | none=>match LC ops with
   | true=>match Et P (ops.size+1) ops ⟨List.replicate ops.size false⟩ []with
    | some p=>⟨fun E A S k=>WO ops (Yn p) A fun A=>(aDe P p ops).f E A S k⟩
    | none=>⟨fun _ _ _ _=>false⟩
   | false=>⟨fun _ _ _ _=>false⟩
 | false=>aOj P ops ops.toList
theorem aER (E:Env) (ops:Array Oper) (draw:Bool) (A:bC) (S:St) (k:KS):(aGv E.P ops draw).f E A S k=fX draw (drG E ops A S k) (ZH E ops ops.toList A S k):=by
 cases draw with
 | true=>
  unfold aGv drG fX;simp only;cases Er E.P ops with
  | none=>
   simp only;cases LC ops with
   | false=>rfl
   | true=>
    simp only;cases Et E.P (ops.size+1) ops ⟨List.replicate ops.size false⟩ []with
    | none=>rfl
    | some p=>simp only [aGu]
  | some l=>
   simp only;cases h:PY l with
   | nil=>exact Cl E ops l A S k
   | cons d ls=>simp only [Cl]
 | false=>exact aLz E ops _ A S k
structure sI where
 loop:Nat->List Nat×List Nat×List Nat
 join:Nat->Option (List Nat)
def rJ:Code->Option Nat
 | .region i _ _=>some i
 | .seq a b=>match rJ a with | some i=>some i | none=>rJ b
 | .cond _ a b=>match rJ a with | some i=>some i | none=>rJ b
 | .block _ a=>rJ a
 | .loop a=>rJ a
 | .scope a=>rJ a
 | .rangeFunc _ _ a b=>match rJ a with | some i=>some i | none=>rJ b
 | _=>none
def zD (tb:sI) (a:Code):List Nat:=match rJ a with | some i=>(tb.loop i).1 | none=>[]
def Fd (tb:sI) (a:Code) (e:yS):List Nat:=match rJ a with
 | some i=>match e with | .ret=>(tb.loop i).2.2 | _=>(tb.loop i).2.1
 | none=>[]
def IN (tb:sI) (b:Code):Option (List Nat):=match rJ b with | some i=>tb.join i | none=>none
def DR (l:List Nat) (A:bC) (k:List Value->Bool):Bool:=
 gW (β:=(List Value->Bool)->Bool) (fun k=>k []) (fun i _ ih k=>YJ A.tmps i fun v=>ih fun vs=>k (v::vs)) l k
def LK (l:List Nat) (vs:List Value) (nt g:Nat) (marks:List Nat) (k:bC->Bool):Bool:=
 gW (β:=List Value->Tm->Bool) (fun _ T=>k ⟨T,marks,g⟩) (fun i _ ih vs T=>match vs with | v::vs=>uC v T i fun T=>ih vs T | []=>false) l vs ⟨.leaf,nt⟩
abbrev LpT:=Env->Option Nat->List Value->Nat->List Nat->St->(yS->List Value->Nat->List Nat->St->Bool)->Bool
section
variable (P:Program) (tb:sI)
def Za (a:Code) (ih:List Value->Nat->List Nat->St->Bool) (K:yS->List Value->Nat->List Nat->St->Bool):Cb:=fun e A S=>match e with
 | .normal=>DR (zD tb a) A fun vs=>ih vs A.tmps.n A.marks S
 | e=>DR (Fd tb a e) A fun vs=>K e vs A.tmps.n A.marks S
def Fe (a:Code) (body:CdW) (E:Env) (r:Option Nat) (K:yS->List Value->Nat->List Nat->St->Bool):Nat->List Value->Nat->List Nat->St->Bool:=
 MZ (β:=List Value->Nat->List Nat->St->Bool) (fun _ _ _ _=>false) (fun _ ih vs n marks S=>LK (zD tb a) vs n P.globals.size marks fun A=>body.f E r A S (Za tb a ih K))
def aLD (a:Code) (body:CdW):LpT:=fun E r vs n marks S K=>Fe P tb a body E r K E.most vs n marks S
def aOn (a:Code) (K:Cb):yS->List Value->Nat->List Nat->St->Bool:=fun e vs n marks S=>LK (Fd tb a e) vs n P.globals.size marks fun A=>K e A S
def aQo (a:Code) (lp:LpT):CdW:=⟨fun E r A S K=>DR (zD tb a) A fun vs=>lp E r vs A.tmps.n A.marks S (aOn P tb a K)⟩
def aES (l:List Nat) (b:CdW) (E:Env) (r:Option Nat) (K:Cb) (vs:List Value) (n:Nat) (marks:List Nat) (S:St):Bool:=pL E.most false fun _=>LK l vs n P.globals.size marks fun A=>b.f E r A S K
def aBF (j:Option (List Nat)) (b:CdW) (E:Env) (r:Option Nat) (K:Cb):Cb:=fun e A S=>match e with
 | .normal=>match j with
  | none=>b.f E r A S K
  | some l=>DR l A fun vs=>aES P l b E r K vs A.tmps.n A.marks S
 | e=>K e A S
def aDh (id:Nat) (K:Cb):Cb:=fun e A S=>match e with
 | .exit i=>match Nat.beq i id with | true=>K .normal A S | false=>K (.exit i) A S
 | e=>K e A S
def pP (lp:Code->LpT):Code->CdW
 | .skip=>⟨fun _ _ A S K=>K .normal A S⟩
 | .region _ ops draw=>⟨fun E _ A S K=>(aGv P ops draw).f E A S fun A S=>K .normal A S⟩
 | .seq a b=>⟨fun E r A S K=>(pP lp a).f E r A S (aBF P (IN tb b) (pP lp b) E r K)⟩
 | .cond c a b=>⟨fun E r A S K=>(AQ c).f A fun v=>match v with | .bool v=>fX v ((pP lp a).f E r A S K) ((pP lp b).f E r A S K) | _=>false⟩
 | .block id a=>⟨fun E r A S K=>(pP lp a).f E r A S (aDh id K)⟩
 | .loop a=>aQo P tb a (lp a)
 | .scope a=>pP lp a
 | .rangeFunc f ps as bo=>⟨fun E r A S K=>Cc E r f ps as bo A S K⟩
 | .exit id=>⟨fun _ _ A S K=>K (.exit id) A S⟩
 | .label _=>⟨fun _ _ A S K=>K .normal A S⟩
 | .ret=>⟨fun _ _ A S K=>K .ret A S⟩
 | _=>⟨fun _ _ _ _ _=>false⟩
def lpX:Nat->Code->LpT
 | 0=>fun _ _ _ _ _ _ _ _=>false
 | n+1=>fun a=>aLD P tb a (pP P tb (lpX n) a)
end
end Go.Am
namespace Go.Am
open Go.RowKit Go.MapKept
section
variable{P:Program}{w0:World}{U:Rn}{S:St}{w:World}
theorem aDi{A:bC}:∀{l:List Nat} {k:List Value->Bool},DR l A k=true->∃vs,k vs=true/\vs.length=l.length/\∀(j i:Nat) (v:Value),l[j]? =some i->vs[j]? =some v->A.tmps.t.get i=some v:=by
 intro l;induction l with
 | nil=>intro k hk;exact⟨[],hk,rfl,fun j i v h=>by simp at h⟩
 | cons x l ih=>
  intro k hk;obtain⟨v,hv,hk⟩:=HJ (show YJ A.tmps x (fun v=>DR l A fun vs=>k (v::vs))=true from hk);obtain⟨vs,h1,h2,h3⟩:=ih hk;refine⟨v::vs,h1,by simp [h2],fun j i u hi hu=>?_⟩;cases j with
  | zero=>simp at hi hu;subst hi hu;exact hv
  | succ j=>simp at hi hu;exact h3 j i u hi hu
def aET (U:Rn) (l:List Nat) (vs:List Value) (a:Act):Prop:=vs.length=l.length/\∀(j i:Nat) (v:Value),l[j]? =some i->vs[j]? =some v->∃v',a.tmps.toList[i]? =some v'/\VR U v v'
theorem aBG{A:bC}{a:Act} (hA:BI P U A a){l:List Nat}{k:List Value->Bool} (hk:DR l A k=true):∃vs,k vs=true/\aET U l vs a:=by
 obtain⟨vs,h1,h2,h3⟩:=aDi hk;exact⟨vs,h1,h2,fun j i v hi hv=>hA.tmps.get (h3 j i v hi hv)⟩
theorem Zb{a:Act}{marks:List Nat}{k:bC->Bool}{nt:Nat}:∀{l:List Nat} {vs:List Value} {T:Tm},
 (gW (β:=List Value->Tm->Bool) (fun _ T=>k ⟨T,marks,P.globals.size⟩) (fun i _ ih vs T=>match vs with | v::vs=>uC v T i fun T=>ih vs T | []=>false) l vs T)=true->
 aET U l vs a->T.n=nt->(∀i v,T.t.get i=some v->∃v',a.tmps.toList[i]? =some v'/\VR U v v')->∃T',k ⟨T',marks,P.globals.size⟩=true/\T'.n=nt/\∀i v,T'.t.get i=some v->∃v',a.tmps.toList[i]? =some v'/\VR U v v':=by
 intro l;induction l with
 | nil=>intro vs T hk _ hn hT;exact⟨T,hk,hn,hT⟩
 | cons x l ih=>
  intro vs T hk hv hn hT;rw [bU]at hk;cases vs with
  | nil=>have:=hv.1;simp at this
  | cons v vs=>
   obtain⟨hx,hk⟩:=FT hk;refine ih hk ⟨by have:=hv.1;simpa using this,fun j i u hi hu=>hv.2 (j+1) i u (by simpa using hi) (by simpa using hu)⟩ hn fun i u hu=>?_;have hu:(T.t.put x v).get i=some u:=hu;rw [AP]at hu;split at hu
   ·rename_i e
    injection hu with hu;subst hu e;exact hv.2 0 i v rfl rfl
   ·exact hT i u hu
theorem aBH{a:Act}{marks:List Nat}{k:bC->Bool}{nt:Nat}{l:List Nat}{vs:List Value} (hk:LK l vs nt P.globals.size marks k=true) (hv:aET U l vs a) (hn:nt=a.tmps.size) (hm:Xs U marks a.defers) (hr:Rel P w0 U S w):
 ∃A,k A=true/\SR P w0 U A a S w/\A.marks=marks:=by
 obtain⟨T',h1,h2,h3⟩:=Zb hk hv rfl (fun i v h=>by cases h);exact⟨_,h1,⟨⟨⟨by rw [h2,hn];simp,h3⟩,rfl⟩,hr,hm⟩,rfl⟩
end
end Go.Am
namespace Go.Am
open Go.RowKit Go.MapKept
section
variable{E:Env}{w0:World}
structure AtX (P:Program) (w0:World) (U:Rn) (l:List Nat) (vs:List Value) (n:Nat) (marks:List Nat) (a:Act) (S:St) (w:World):Prop where
 aSj:aET U l vs a
 size:n=a.tmps.size
 marks:Xs U marks a.defers
 rel:Rel P w0 U S w
def aSk (P:Program) (w0:World) (tb:sI) (b:Code) (U:Rn) (w:World) (K:yS->List Value->Nat->List Nat->St->Bool) (e:Exit) (a':Act) (w':World):Prop:=
 ∃U' ae vs n marks S',e=exR ae/\K ae vs n marks S'=true/\AtX P w0 U' (Fd tb b ae) vs n marks a' S' w'/\xM U w U' w'
def aQp (E:Env) (w0:World) (tb:sI) (lp:Code->LpT):Prop:=∀(b:Code) {U:Rn} {vs:List Value} {n:Nat} {marks:List Nat} {a:Act} {S:St} {w:World} {K:yS->List Value->Nat->List Nat->St->Bool} {r ro:Option Nat} {Q:Exit->Act->World->Prop},
 lp b E r vs n marks S K=true->AtX E.P w0 U (zD tb b) vs n marks a S w->RoR U r ro->(∀e a' w',aSk E.P w0 tb b U w K e a' w'->Q e a' w')->(Code.loop b).wpIn (UT ro) 0 E.P Q a w
theorem AtX.canon{P:Program}{U:Rn}{l:List Nat}{vs:List Value}{n:Nat}{marks:List Nat}{a:Act}{S:St}{w:World}{k:bC->Bool} (h:AtX P w0 U l vs n marks a S w) (hk:LK l vs n P.globals.size marks k=true):∃A,k A=true/\SR P w0 U A a S w:=by
 obtain⟨A,h1,h2,_⟩:=aBH hk h.aSj h.size h.marks h.rel;exact⟨A,h1,h2⟩
theorem SR.at{P:Program}{U:Rn}{A:bC}{a:Act}{S:St}{w:World}{l:List Nat}{k:List Value->Bool} (h:SR P w0 U A a S w) (hk:DR l A k=true):∃vs,k vs=true/\AtX P w0 U l vs A.tmps.n A.marks a S w:=by
 obtain⟨vs,h1,h2⟩:=aBG h.act hk;exact⟨vs,h1,h2,by rw [h.act.tmps.1];simp,h.marks,h.rel⟩
theorem Ff (hc:kT E.P w0 E.call) (hr:nV E.P w0 E.round) (hm:E.P.follows .mixedOrders=true){tb:sI}{lp:Code->LpT} (hlp:aQp E w0 tb lp):∀(c:Code) {U:Rn} {A:bC} {a:Act} {S:St} {w:World} {K:Cb} {r ro:Option Nat} {Q:Exit->Act->World->Prop},
 (pP E.P tb lp c).f E r A S K=true->SR E.P w0 U A a S w->RoR U r ro->(∀e a' w',Arr E.P w0 U w K e a' w'->Q e a' w')->c.wpIn (UT ro) 0 E.P Q a w:=by
 intro c;induction c with
 | skip=>intro U A a S w K r ro Q hk hs uD hQ;exact wpIn_skip (hQ _ _ _ ⟨U,.normal,A,S,rfl,hk,hs,.refl U w⟩)
 | label l=>intro U A a S w K r ro Q hk hs uD hQ;exact wpIn_label (hQ _ _ _ ⟨U,.normal,A,S,rfl,hk,hs,.refl U w⟩)
 | ret=>intro U A a S w K r ro Q hk hs uD hQ;exact wpIn_ret (hQ _ _ _ ⟨U,.ret,A,S,rfl,hk,hs,.refl U w⟩)
 | exit id=>intro U A a S w K r ro Q hk hs uD hQ;exact wpIn_exit (hQ _ _ _ ⟨U,.exit id,A,S,rfl,hk,hs,.refl U w⟩)
 | goto l=>intro U A a S w K r ro Q hk hs uD hQ;cases hk
 | refuse l=>intro U A a S w K r ro Q hk hs uD hQ;cases hk
 | region id ops draw=>
  intro U A a S w K r ro Q hk hs uD hQ;have hk:(aGv E.P ops draw).f E A S (fun A S=>K .normal A S)=true:=hk;rw [aER]at hk;exact Ec hc hr (aOg hc hr hm) (.region id ops draw) hk hs uD hQ
 | seq x y ihx ihy=>
  intro U A a S w K r ro Q hk hs uD hQ;have hk:(pP E.P tb lp x).f E r A S (aBF E.P (IN tb y) (pP E.P tb lp y) E r K)=true:=hk;refine wpIn_seq (ihx hk hs uD ?_)
  rintro e a' w' ⟨U',ae,A',S',rfl,h1,h2,h3⟩
  cases ae with
  | normal=>
   unfold aBF at h1;cases hj:IN tb y with
   | none=>
    rw [hj]at h1;exact ihy h1 h2 (uD.mono h3.ext) fun e a w h=>hQ e a w (h.trans h3)
   | some l=>
    rw [hj]at h1;have h1:DR l A' (fun vs=>aES E.P l (pP E.P tb lp y) E r K vs A'.tmps.n A'.marks S')=true:=h1;obtain⟨vs,g1,g2⟩:=h2.at h1
    have g1:LK l vs A'.tmps.n E.P.globals.size A'.marks (fun A=>(pP E.P tb lp y).f E r A S' K)=true:=by
     unfold aES at g1;cases hm:E.most with
     | zero=>rw [hm]at g1;cases g1
     | succ m=>rw [hm]at g1;exact g1
    obtain⟨A2,g3,g4⟩:=g2.canon g1;exact ihy g3 g4 (uD.mono h3.ext) fun e a w h=>hQ e a w (h.trans h3)
  | exit id=>exact hQ _ _ _ ⟨U',.exit id,A',S',rfl,h1,h2,h3⟩
  | ret=>exact hQ _ _ _ ⟨U',.ret,A',S',rfl,h1,h2,h3⟩
 | cond c x y ihx ihy=>
  intro U A a S w K r ro Q hk hs uD hQ;have hk:(AQ c).f A (fun v=>match v with | .bool b=>fX b ((pP E.P tb lp x).f E r A S K) ((pP E.P tb lp y).f E r A S K) | _=>false)=true:=hk;rw [kU]at hk;obtain⟨v,hk,hv⟩:=aV hs.rel hs.act hk;split at hk
  ·rename_i b
   have e:=hv.of_flat rfl;cases b with
   | true=>exact wpIn_cond_true e (ihx hk hs uD hQ)
   | false=>exact wpIn_cond_false e (ihy hk hs uD hQ)
  ·cases hk
 | block id x ih=>
  intro U A a S w K r ro Q hk hs uD hQ;have hk:(pP E.P tb lp x).f E r A S (aDh id K)=true:=hk;refine wpIn_block (ih hk hs uD ?_)
  rintro e a' w' ⟨U',ae,A',S',rfl,h1,h2,h3⟩
  cases ae with
  | normal=>exact hQ _ _ _ ⟨U',.normal,A',S',rfl,h1,h2,h3⟩
  | ret=>exact hQ _ _ _ ⟨U',.ret,A',S',rfl,h1,h2,h3⟩
  | exit i=>
   unfold aDh at h1;simp only at h1;show Exit.inBlock id Q (.exit i) a' w';split at h1
   ·rename_i hi
    have hi:=dE hi;subst hi;simp only [Exit.inBlock,if_true];exact hQ _ _ _ ⟨U',.normal,A',S',rfl,h1,h2,h3⟩
   ·rename_i hi
    have hi:=VH hi;simp only [Exit.inBlock,hi,if_false];exact hQ _ _ _ ⟨U',.exit i,A',S',rfl,h1,h2,h3⟩
 | scope x ih=>
  intro U A a S w K r ro Q hk hs uD hQ;refine Oy (ih (show(pP E.P tb lp x).f E r A S K=true from hk) hs uD ?_)
  rintro e a' w' ⟨U',ae,A',S',rfl,h1,h2,h3⟩
  cases ae with
  | normal=>exact hQ _ _ _ ⟨U',.normal,A',S',rfl,h1,h2,h3⟩
  | exit id=>exact hQ _ _ _ ⟨U',.exit id,A',S',rfl,h1,h2,h3⟩
  | ret=>exact hQ _ _ _ ⟨U',.ret,A',S',rfl,h1,h2,h3⟩
 | rangeFunc f ps as bo _ _=>
  intro U A a S w K r ro Q hk hs uD hQ;exact Vf hc hk hs uD hQ
 | loop x ih=>
  intro U A a S w K r ro Q hk hs uD hQ;have hk:DR (zD tb x) A (fun vs=>lp x E r vs A.tmps.n A.marks S (aOn E.P tb x K))=true:=hk;obtain⟨vs,hk,RE⟩:=hs.at hk;refine hlp x hk RE uD ?_
  rintro e a' w' ⟨U',ae,vs',n',aSl,S',rfl,h1,h2,h3⟩
  obtain⟨A',h1,h4⟩:=h2.canon h1;exact hQ _ _ _ ⟨U',ae,A',S',rfl,h1,h4,h3⟩
theorem aDj (hc:kT E.P w0 E.call) (hr:nV E.P w0 E.round) (hm:E.P.follows .mixedOrders=true) (tb:sI):∀m,aQp E w0 tb (lpX E.P tb m):=by
 intro m;induction m with
 | zero=>intro b U vs n marks a S w K r ro Q hk;cases hk
 | succ m ih=>
  intro b U vs n marks a S w K r ro Q hk RE uD hQ
  let F:Nat->List Value->Nat->List Nat->St->Bool:=Fe E.P tb b (pP E.P tb (lpX E.P tb m) b) E r K
  have hk:F E.most vs n marks S=true:=hk
  let I:Nat->Act->World->Prop:=fun j a' w'=>∃U' vs n marks S',F j vs n marks S'=true/\AtX E.P w0 U' (zD tb b) vs n marks a' S' w'/\xM U w U' w'
  refine wpIn_loop (I:=fun a w=>∃j,I j a w) (μ:=fun a w=>least fun j=>I j a w) ⟨E.most,U,vs,n,marks,S,hk,RE,.refl U w⟩ ?_
  rintro a1 w1 ⟨j0,hj0⟩
  obtain⟨hj,_⟩:=SD (p:=fun j=>I j a1 w1) hj0;generalize aRP:least (fun j=>I j a1 w1)=j at hj;obtain⟨U1,vs1,n1,aOo,S1,h1,h2,h3⟩:=hj;cases j with
  | zero=>cases h1
  | succ j=>
   have h1:LK (zD tb b) vs1 n1 E.P.globals.size aOo (fun A=>(pP E.P tb (lpX E.P tb m) b).f E r A S1 (Za tb b (F j) K))=true:=h1;obtain⟨A1,h1,xB⟩:=h2.canon h1;refine Ff hc hr hm ih b h1 xB (uD.mono h3.ext) ?_
   rintro e a' w' ⟨U',ae,A',S',rfl,g1,g2,g3⟩
   cases ae with
   | normal=>
    obtain⟨vs',g1,aIu⟩:=g2.at g1;have hI:I j a' w':=⟨U',vs',_,_,S',g1,aIu,h3.trans g3⟩;refine⟨⟨j,hI⟩,?_⟩;have:=(SD (p:=fun j=>I j a' w') hI).2;exact Nat.lt_succ_of_le this
   | exit id=>
    obtain⟨vs',g1,aIu⟩:=g2.at g1;exact hQ _ _ _ ⟨U',.exit id,vs',_,_,S',rfl,g1,aIu,h3.trans g3⟩
   | ret=>
    obtain⟨vs',g1,aIu⟩:=g2.at g1;exact hQ _ _ _ ⟨U',.ret,vs',_,_,S',rfl,g1,aIu,h3.trans g3⟩
end
section
variable (P:Program) (tb:FuncId->sI)
def aSm (fn:Func) (K:VK):Cb:=fun e A S=>match e with
 | .exit _=>false
 | _=>OX A.marks S fun S=>sZ P fn.results.toList A S fun vs=>match vs with | [v]=>K v S | vs=>K (.tuple ⟨vs⟩) S
def FC:Nat:=5
def fnX (f:FuncId) (E:Env) (args:List Value) (S:St) (K:VK):Bool:=
 match P.funcs[f]? with
 | some fn=>match fn.body with
  | some c=>bV fn.ntmps fun n=>aEr n args fun ts=>(pP P (tb f) (lpX P (tb f) FC) c).f E none ⟨ts,[],P.globals.size⟩ S (aSm P fn K)
  | none=>false
 | none=>false
def Io (n:Nat) (bo:Code):Nat:=match rJ bo with | some i=>1000000+n*10000+i | none=>1000000
def Ag (n:Nat) (bo:Code):List Nat:=((tb (Io n bo)).loop 1000000).1
def aLE (l:Nat) (K:VK):Cb:=fun e _ S=>rE S.h l fun o=>match o with
 | .loop tm ps as bo _ _=>match e with
  | .normal=>sR S l (.loop tm ps as bo .ready none) fun S=>K (.bool true) S
  | .ret=>sR S l (.loop tm ps as bo .done (some .ret)) fun S=>K (.bool false) S
  | .exit id=>sR S l (.loop tm ps as bo .done (some (.exit id))) fun S=>K (.bool false) S
 | _=>false
def aIv (n l:Nat) (bo:Code) (E:Env) (K:VK):Cb:=fun e A S=>match e with
 | .normal=>rE S.h l fun o=>match o with
  | .loop tm ps as bo' .ready pe=>sR S l (.loop tm ps as bo' .busy pe) fun S=>(pP P (tb (Io n bo)) (lpX P (tb (Io n bo)) FC) bo).f E (some l) A S (aLE l K)
  | _=>false
 | _=>false
def Py (E:Env) (l:Nat) (args:List Value) (S:St) (K:VK):Bool:=
 rE S.h l fun o=>match o with
  | .loop tmps ps as bo _ _=>DR (Ag tb tmps.n bo) ⟨tmps,[],P.globals.size⟩ fun vs=>LK (Ag tb tmps.n bo) vs tmps.n P.globals.size [] fun A=>aA5 ps args A.tmps fun ts=>
   (pP P (tb (Io tmps.n bo)) (lpX P (tb (Io tmps.n bo)) FC) as).f E (some l) ⟨ts,[],P.globals.size⟩ S (aIv P tb tmps.n l bo E K)
  | _=>false
def aGz (ov:FuncId->Option (List Value->St->VK->Bool)) (most:Nat) (n:Nat):Env:=
 MZ (β:=Env) {P,ov,call:=fun _ _ _ _=>false,round:=fun _ _ _ _=>false,most}
  (fun _ E=>{P,ov,call:=fun f args S K=>match ov f with | some g=>g args S K | none=>fnX P tb f E args S K,round:=fun l args S K=>Py P tb E l args S K,most}) n
inductive Dir where
 | l
 | r
 | d
variable (T:sI) (E:Env)
end
section
variable{P:Program}{tb:FuncId->sI}{w0:World}
theorem aGA{E:Env} (hP:E.P=P) (hc:kT P w0 E.call) (hr:nV P w0 E.round) (hm:P.follows .mixedOrders=true) (LA:∀(f:FuncId) (fn:Func),P.funcs[f]? =some fn->fn.name≠ "runtime.NumGoroutine"):kT P w0 (fun f args S K=>fnX P tb f E args S K):=by
 subst hP;intro f args S K U w eK hk h ha;dsimp only at hk;unfold fnX at hk;split at hk
 ·rename_i fn hf
  split at hk
  ·rename_i c hb
   refine⟨fun w=>?_,?_⟩
   ·have hn:=LA f fn hf
    have hp:(program).run E.P w= .ok E.P w:=rfl;simp [callFunc,hp,hf,hn,hb]
   ·rw [bK]at hk
    obtain⟨ts,hk,Oj⟩:=Jv hk ha;refine callsIn_of_wp_marks hf hb trivial (Ff hc hr hm (aDj hc hr hm (tb f) FC) c (ro:=none) (r:=none) hk ⟨⟨Oj,rfl⟩,h,⟨rfl,by simp⟩⟩ (.inl ⟨rfl,rfl⟩) ?_)
    ·rintro e a' w' ⟨U',ae,A',S',rfl,g1,g2,g3⟩
     have fin:OX A'.marks S' (fun S=>sZ E.P fn.results.toList A' S fun vs=>match vs with | [v]=>K v S | vs=>K (.tuple ⟨vs⟩) S)=true->LeavesInM (UT none) 0 E.P fn a'.tmps (aF5 E.P w0 U w K) a'.defers .returning w':=by
      intro hk;refine Ed hk g2.rel g2.marks fun S2 w2 hk hrel WG=>?_;obtain⟨vs,vs',hk,LB,fN⟩:=WK hrel g2.act hk
      have aNP:(fn.results.mapM (fun | .tmp t=>pure (a'.tmps.getD t undef) | .cell x t=>do loadVar t (<-asAddr (a'.tmps.getD x undef)):ResultVar->Sem Value)).run E.P w2= .ok ⟨vs'⟩ w2:=by
       rw [<-Array.toArray_toList (xs:=fn.results),List.mapM_toArray];rw [Sem.run_map];exact(iZ (fun r=>Result.andThen r _) fN).trans rfl
      refine⟨(if h:(⟨vs'⟩:Array Value).size=1 then(⟨vs'⟩:Array Value)[0]else .tuple ⟨vs'⟩),?_,?_⟩
      ·unfold results
       rw [cP];exact(iZ (fun r=>Result.andThen r _) aNP).trans rfl
      ·refine⟨_,rfl,?_⟩
       match vs,vs',hk,LB with
       | [v],[v'],hk,LB=>exact⟨U',v,S2,hk,LB.head,hrel,g3.trans WG⟩
       | [],[],hk,LB=>exact⟨U',_,S2,hk,.pO (.nil _),hrel,g3.trans WG⟩
       | a::b::l,a2::b2::l2,hk,LB=>
        have:¬(⟨a2::b2::l2⟩:Array Value).size=1:=by simp
        rw [dif_neg this];exact⟨U',_,S2,hk,.pO LB,hrel,g3.trans WG⟩
       | [],_::_,_,LB=>have:=LB.1;simp at this
       | _::_,[],_,LB=>have:=LB.1;simp at this
       | [_],_::_::_,_,LB=>have:=LB.1;simp at this
       | _::_::_,[_],_,LB=>have:=LB.1;simp at this
     cases ae with
     | normal=>exact fin g1
     | ret=>exact fin g1
     | exit id=>cases g1
  ·cases hk
 ·cases hk
theorem Zc{E:Env} (hP:E.P=P) (hc:kT P w0 E.call) (hr:nV P w0 E.round) (hm:P.follows .mixedOrders=true):nV P w0 (Py P tb E):=by
 subst hP;intro l args S K U w eK L hk h ha hL;unfold Py at hk;obtain⟨o,ho,hk⟩:=oV hk;split at hk
 ·rename_i tmps params assign body st pe
  obtain⟨r,hb,hrr,hst,hpe,VV,has,hbo,htm⟩:=xP h ho hL;have aSn:SR E.P w0 U ⟨tmps,[],E.P.globals.size⟩ {tmps:=r.tmps,defers:=[]} S w:=⟨⟨htm,rfl⟩,h,⟨rfl,by simp⟩⟩;obtain⟨vs,hk,RE⟩:=aSn.at hk;obtain⟨A0,hk,hA0⟩:=RE.canon hk;obtain⟨ts,hk,hlen,Oj⟩:=Pa hk ha hA0.act.tmps
  have aCS:(Instr.yield L.b ⟨eK⟩).run E.P w= .ok (.round L.b r.fn ((r.params.zip ⟨eK⟩).foldl (fun tmps (x:Tmp×Value)=>tmps.setIfInBounds x.1 x.2) r.tmps) r.assign r.body) w:=by
   have hsz:(⟨eK⟩:Array Value).size=r.params.size:=by
    show eK.length=_;rw [hlen,<-VV];rfl
   have oJ:¬(⟨eK⟩:Array Value).size≠r.params.size:=fun hh=>hh hsz;simp only [Instr.yield,cP,run_getLoop hrr,eE,aG oJ,kJ]
  refine⟨_,_,_,_,aCS,?_⟩;refine roundIn_of_wpIn trivial ?_;rw [has]
  have aNQ:((r.params.zip ⟨eK⟩).foldl (fun tmps (x:Tmp×Value)=>tmps.setIfInBounds x.1 x.2) r.tmps)=(params.zip eK).foldl (fun tmps (x:Tmp×Value)=>tmps.setIfInBounds x.1 x.2) r.tmps:=by
   rw [<-Array.foldl_toList]
   congr 1
   rw [Array.toList_zip,VV]
  rw [aNQ];refine Ff hc hr hm (aDj hc hr hm _ FC) assign (ro:=some L.b) hk ⟨⟨Oj,rfl⟩,h,⟨rfl,by simp⟩⟩ (.inr ⟨l,L,rfl,hL,rfl⟩) ?_
  rintro e a' w' ⟨U1,ae,A1,S1,rfl,g1,g2,g3⟩
  unfold aIv at g1;cases ae with
  | exit id=>cases g1
  | ret=>cases g1
  | normal=>
   simp only at g1;obtain⟨o1,ho1,g1⟩:=oV g1;have hL1:=g3.ext _ _ hL;split at g1
   ·rename_i tm ps as bo pe1
    obtain⟨r1,Dl,aHO,aNR,aNS,aNT,aNU,aNV,aNW⟩:=xP g2.rel ho1 hL1;obtain⟨q1,q2,q3⟩:=WJ g2.rel ho1 hL1 Dl aHO aNT aNU aNV aNW .busy pe1;rw [gS]at g1;refine⟨w'.putObj L.b (.loop {r1 with state:= .busy,pending:=pe1}),?_,?_⟩
    ·have q3':(setObj L.b (.loop {r1 with state:= .busy})).run E.P w'= .ok () (w'.putObj L.b (.loop {r1 with state:= .busy,pending:=pe1})):=by
      rw [<-aNS]at q3 ⊢;exact q3
     simp only [Instr.beginRound,cP,run_getLoop aHO,eE,q3',aNR,kJ]
    ·rw [hbo]
     refine Ff hc hr hm (aDj hc hr hm _ FC) body (ro:=some L.b) g1 ⟨g2.act,q1,g2.marks⟩ (.inr ⟨l,L,rfl,hL1,rfl⟩) ?_
     rintro e2 a2 w2 ⟨U2,ae2,A2,S2,rfl,k1,k2,k3⟩
     unfold aLE at k1;obtain⟨o2,BL,k1⟩:=oV k1;have hL2:=k3.ext _ _ hL1;split at k1
     ·rename_i tm2 ps2 as2 bo2 st2 pe2
      obtain⟨r2,NH,aHP,aRQ,aRR,aNX,aNY,aNZ,aN0⟩:=xP k2.rel BL hL2
      have fin:∀(Mr:LoopState) (jump:Option Code) (bv:Bool),K (.bool bv) (S2.set l (.loop tm2 ps2 as2 bo2 Mr jump))=true->bv=jump.isNone->Mr=(if jump.isNone then .ready else .done)->
       ∃v w',(Instr.endRound L.b jump).run E.P w2= .ok v w'/\aF5 E.P w0 U w K (.returned v) w':=by
       intro Mr jump bv hK hbv aHQ;obtain⟨z1,z2,z3⟩:=WJ k2.rel BL hL2 NH aHP aNX aNY aNZ aN0 Mr jump;refine⟨.bool bv,_,?_,.bool bv,rfl,U2,.bool bv,_,hK,.flat rfl,z1,((g3.trans q2).trans k3).trans z2⟩;rw [aHQ]at z3 ⊢;simp only [Instr.endRound,cP,run_getLoop aHP,eE,z3,kJ,hbv]
      cases ae2 with
      | normal=>
       simp only [gS]at k1;exact fin .ready none true k1 rfl rfl
      | ret=>
       simp only [gS]at k1;exact fin .done (some .ret) false k1 rfl rfl
      | exit id=>
       simp only [gS]at k1;exact fin .done (some (.exit id)) false k1 rfl rfl
     ·cases k1
   ·cases g1
 ·cases hk
theorem aOp (P:Program) (tb:FuncId->sI) (ov:FuncId->Option (List Value->St->VK->Bool)) (most n:Nat):(aGz P tb ov most n).P=P:=by cases n<;>rfl
theorem aDk{ov:FuncId->Option (List Value->St->VK->Bool)}{most:Nat} (hov:Ee P w0 ov) (LA:∀(f:FuncId) (fn:Func),P.funcs[f]? =some fn->fn.name≠ "runtime.NumGoroutine") (hm:P.follows .mixedOrders=true):∀n,kT P w0 (aGz P tb ov most n).call/\nV P w0 (aGz P tb ov most n).round:=by
 intro n;induction n with
 | zero=>
  refine⟨?_,?_⟩
  ·intro f args S K U w eK hk;cases hk
  ·intro l args S K U w eK L hk;cases hk
 | succ n ih=>
  obtain⟨ih1,ih2⟩:=ih;have hP:=aOp P tb ov most n;refine⟨fun f args S K U w eK hk h ha=>?_,?_⟩
  ·have hk:(match(generalizing:=false) ov f with | some g=>g args S K | none=>fnX P tb f (aGz P tb ov most n) args S K)=true:=hk
   split at hk
   ·rename_i g hg
    exact hov f g hg f args S K U w eK (by simpa using hk) h ha
   ·exact aGA (tb:=tb) hP ih1 ih2 hm LA f args S K U w eK hk h ha
  ·exact Zc hP ih1 ih2 hm
end
end Go.Am
namespace Go.Am
def bY (l:List (Nat×List Nat×List Nat×List Nat)) (i:Nat):List Nat×List Nat×List Nat:=gW (β:=List Nat×List Nat×List Nat) ([],[],[]) (fun p _ ih=>fX (Nat.beq p.1 i) p.2 ih) l
def bZ (l:List (Nat×List Nat)) (i:Nat):Option (List Nat):=gW (β:=Option (List Nat)) none (fun p _ ih=>fX (Nat.beq p.1 i) (some p.2) ih) l
def aQq (l:List (Nat×sI)) (f:FuncId):sI:=gW (β:=sI) ⟨fun _=>([],[],[]),fun _=>none⟩ (fun p _ ih=>fX (Nat.beq p.1 f) p.2 ih) l
section
variable{P:Program}
theorem aDf (off b o:Nat) (K:Value->Bool):aIc off (.pointer (some ⟨b,o,none⟩)) K=K (.pointer (some ⟨b,o+off,none⟩)):=by
 show bV (o+off) (fun o=>K (.pointer (some ⟨b,o,none⟩)))=_;rw [bK]
theorem aOk (i:Nat) (vs:List Value) (K:Value->Bool):aIj i (.tuple ⟨vs⟩) K=ZG vs i fun v=>K v:=rfl
theorem Yw{α:Type}{l:List α}{i:Nat}{v:α} (h:l[i]? =some v) (k:α->Bool):ZG l i k=k v:=by
 induction l generalizing i with
 | nil=>cases h
 | cons a l ih=>
  cases i with
  | zero=>simp at h;subst h;rfl
  | succ i=>exact ih (by simpa using h)
theorem aLB (l:List UInt8) (K:Value->Bool):aBB (.string ⟨⟨l⟩⟩) K=K (.int .i64 (.ofNat l.length)):=nT _ _
theorem aOl (k j:IntKind) (n:Int) (K:Value->Bool):aIi k (.int j n) K=K (.int k (sH k n)):=by
 show CZ (sH k n) (fun n=>K (.int k n))=_;rw [nU]
theorem LJ{S:St}{i:Nat}{vs:List Value}{e:TypeId}{c:CK} (h:S.obj i=some (.cells vs e c)) (k:List Value->TypeId->CK->Bool):DA S i k=k vs e c:=by
 unfold DA;rw [mZ];have h:S.h.get i=some (.cells vs e c):=h;rw [h]
theorem aIp{S:St}{i o:Nat}{vs:List Value}{e:TypeId}{c:CK}{v:Value} (h:S.obj i=some (.cells vs e c)) (hv:vs[o]? =some v) (K:VK):rLd (.pointer (some ⟨i,o,none⟩)) S K=K v S:=by
 show DA S i (fun vs _ _=>ZG vs o fun v=>K v S)=_;rw [LJ h,Yw hv]
theorem YQ{S:St}{i o n:Nat}{vs:List Value}{e:TypeId}{c:CK} (h:S.obj i=some (.cells vs e c)) (hn:o+n<=vs.length) (k:List Value->Bool):PM S i o n k=k ((vs.drop o).take n):=by
 show DA S i (fun vs _ _=>NC o vs fun l=>VO n l k)=_;rw [LJ h,DG,aJ (by omega),HF,aJ (by simp;omega)]
theorem aDg{S:St}{i o n:Nat}{vs:List Value}{e:TypeId}{c:CK} (h:S.obj i=some (.cells vs e c)) (hn:o+n<=vs.length) (K:VK):aIb n (.pointer (some ⟨i,o,none⟩)) S K=K (.agg ⟨(vs.drop o).take n⟩) S:=by
 show PM S i o n (fun l=>K (.agg ⟨l⟩) S)=_;rw [YQ h hn]
theorem aIq{cs:List Value}{off:Nat}{v:Value} (h:cs[off]? =some v) (K:Value->Bool):Pu off (.agg ⟨cs⟩) K=K v:=by
 show ZG cs off K=_;rw [Yw h]
theorem aGw{cs:List Value}{off n:Nat} (h:off+n<=cs.length) (K:Value->Bool):Ex off n (.agg ⟨cs⟩) K=K (.agg ⟨(cs.drop off).take n⟩):=by
 show NC off cs (fun l=>VO n l fun l=>K (.agg ⟨l⟩))=_;rw [DG,aJ (by omega),HF,aJ (by simp;omega)]
theorem aBE{v:Value} (h:kR v=true) (k:List Value->Bool):pM v k=k [v]:=by cases v<;>first | rfl | cases h
theorem aIr (z:List Value) (t:TypeId) (S:St) (K:VK):Im z t S K=K (.pointer (some ⟨S.n,0,none⟩)) (S.new (.cells z t .exact)):=by
 unfold Im aK5
 have:∀(z:List Value) (k:List Value->Bool),gW (β:=(List Value->Bool)->Bool) (fun k=>k []) (fun a _ ih k=>ih fun t=>k (a::t)) z k=k z:=by
  intro z;induction z with
  | nil=>intro k;rfl
  | cons a z ih=>intro k;exact ih _
 rw [this,jB]
theorem aOm (op:BinOp) (t:TypeId) (k:IntKind) (a b:Int) (K:Value->Bool) (h1:op≠ .shl) (h2:op≠ .shr):aIh P op t (.int k a) (.int k b) K=RK op k a b K:=by
 rw [SK];have hk:FM k k=true:=by cases k<;>rfl
 cases op<;>first | exact aX rfl h1 | exact aX rfl h2 | (show(match FM k k with | true=>_ | false=>false)=_;rw [hk])
theorem aGx{n:Nat} (h:n<9223372036854775808):sH .i64 (.ofNat n)= .ofNat n:=by
 show(match Nat.blt n 9223372036854775808 with | true=>_ | false=>_)=_;have:Nat.blt n 9223372036854775808=true:=nJ h;rw [this]
theorem aLC (b:Bool) (K:Value->Bool):unK .not (.bool b) K=K (.bool (!b)):=by
 show Bv (!b) (fun b=>K (.bool b))=_;rw [pH]
theorem gY{S:St}{o:iW}{i:Nat} (h:i≠S.n):(S.new o).obj i=S.obj i:=by rw [YN,aG h]
theorem uU{S:St}{o:iW}:(S.new o).obj S.n=some o:=by rw [YN,aJ rfl]
theorem Yx{S:St}{i:Nat}{o:iW}:(S.set i o).obj i=some o:=by rw [GV,aJ rfl]
theorem kY{S:St}{i j:Nat}{o:iW} (h:j≠i):(S.set i o).obj j=S.obj j:=by rw [GV,aG h]
theorem aGy (j:IntKind) (z:Int):TS (.int j z) (.int j z)=true:=by
 have h1:FM j j=true:=by cases j<;>rfl
 show(FM j j&&eqI z z)=true;rw [h1,RR];simp
def Yy (l:List UInt8):List Value:=l.map fun b=> .int .u8 (.ofNat b.toNat)
structure Src (S:St) (size:Nat) (x:Value) (n:Nat) (new:List Value):Prop where
 len:∀k,TL x k=k n
 first:∀k,n≠0->OW S size n x k=k new
 one:∀v∈new,kR v=true
theorem Src.text (S:St) (l:List UInt8):Src S 1 (.string ⟨⟨l⟩⟩) l.length (Yy l):=by
 refine⟨fun k=>nT _ _,fun k h=>?_,fun v hv=>?_⟩
 ·show VO l.length l (fun l=>aHw l k)=_
  rw [HF,aJ (bR _),List.take_length,Xl];rfl
 ·obtain⟨b,_,rfl⟩:=List.mem_map.1 hv
  rfl
theorem Src.row{S:St}{i o n c size:Nat}{vs:List Value}{e:TypeId}{ck:CK} (h:S.obj i=some (.cells vs e ck)) (hn:o+n*size<=vs.length) (h1:∀v∈(vs.drop o).take (n*size),kR v=true):Src S size (.slice (some ⟨i,o,none⟩) n c) n ((vs.drop o).take (n*size)):=by
 refine⟨fun k=>rfl,fun k hz=>?_,h1⟩;obtain⟨m,rfl⟩:=bG hz;show PM S i o ((m+1)*size) k=_;rw [YQ h hn]
theorem aIs{elem size bytes n:Nat}{S:St}{x:Value}{new:List Value} (hx:Src S size x n new) (hz:n≠0) (hb:(n*bytes<=140737488355328/\n<=140737488355328)) (K:VK):
 aDb P elem size bytes (.slice none 0 0) x S K=K (.slice (some ⟨S.n,0,some 0⟩) n n) (S.new (.cells new elem (.grown []))):=by
 obtain⟨m,rfl⟩:=bG hz;show TL x _=_;rw [hx.len];show OW S size (m+1) x _=_;rw [hx.first _ hz];simp only [bK,eG];rw [show Dn (m+1) bytes=true from Nu hb];have:Nat.ble (m+1) 0=false:=rfl;simp only [this];show TM elem [] new (m+1) none S K=_;unfold TM;rw [nA];simp only [Bm,jB]
theorem aIt{elem size bytes n m j:Nat}{S:St}{x:Value}{new vs:List Value}{olds:List Nat} (hx:Src S size x n new) (hz:n≠0) (hb:((m+n)*bytes<=140737488355328/\(m+n)<=140737488355328))
 (hj:S.obj j=some (.cells vs elem (.grown olds))) (hv:vs.length=m*size) (hs:cN P elem=some size) (K:VK):
 aDb P elem size bytes (.slice (some ⟨j,0,some 0⟩) m m) x S K=K (.slice (some ⟨S.n,0,some 0⟩) (m+n) (m+n)) ((S.set j (.cells vs elem .uB)).new (.cells (vs++new) elem (.grown (j::olds)))):=by
 obtain⟨p,rfl⟩:=bG hz;show TL x _=_;rw [hx.len];show OW S size (p+1) x _=_;rw [hx.first _ hz];simp only [bK];rw [show Dn (m+(p+1)) bytes=true from Nu hb]
 have:Nat.ble (m+(p+1)) m=false:=by
  cases h:Nat.ble (m+(p+1)) m with
  | false=>rfl
  | true=>have:=cG h;omega
 simp only [this];show DA S j _=_;rw [LJ hj];simp only [nT,eG,hv,hs];have RP:xH kR new=true:=by rw [mY];exact List.all_eq_true.2 hx.one
 simp only [show Nat.beq (m*size) (m*size)=true from Br _,show Nat.beq size size=true from Br _,show Nat.beq elem elem=true from Br _,RP];rw [YQ hj (by omega)];rw [xG,<-hv,List.take_length];show TM elem vs new (m+(p+1)) (some (j,vs,elem,olds)) S K=_;unfold TM;rw [nA];simp only [gS,jB];rfl
end
inductive Tag where
 | root (n:Nat)
 | sub (t:Tag) (k:Nat)
 | cut (t:Tag) (o n c:Nat)
inductive Dt where
 | int (k:IntKind) (z:Int)
 | bool (b:Bool)
 | str (l:List UInt8)
 | list (cs:List Dt) (n:Nat)
inductive V where
 | int (k:IntKind) (z:Int)
 | bool (b:Bool)
 | str (l:List UInt8)
 | list (O:Tag) (cs:List Dt) (n:Nat)
 | pI (O:Tag) (cs:List Dt) (o:Nat)
 | nil
 | acc (i n:Nat)
 | vY (i n o:Nat)
 | ID (i n o k c:Nat)
 | emp (i n:Nat)
 | own (i o n c:Nat)
 | ptr (i o:Nat)
 | Lq
 | func (f:FuncId) (a c:List V)
 | yield (l:Nat)
 | KZ (s:String) (v:V)
 | iface (t:TypeId) (v:V)
 | Ug
 | Ix
 | yM (i:Nat)
 | Qq
 | agg (cs:List V)
 | tuple (cs:List V)
def T (O:Tag):Dt->V
 | .int k z=> .int k z
 | .bool b=> .bool b
 | .str l=> .str l
 | .list cs n=> .list O cs n
def Tl (O:Tag):Nat->List Dt->List V
 | _,[]=>[]
 | o,d::l=>T (.sub O o) d::Tl O (o+1) l
inductive Ob where
 | row (vs:List V) (t:TypeId)
 | fW (vs:List V) (t:TypeId) (n:Nat)
 | map (es:List (V×V))
 | wD (es:List (V×V)) (bs:List Nat) (ck:Nat)
 | iter (m since:Nat) (seen:List Nat) (last:Nat)
 | loop (ls:List Nat) (vs:List V) (n:Nat) (ps:List Tmp) (as bo:Code) (st:LoopState) (pe:Option Code)
def Qr:Ob->Bool
 | .fW _ _ _=>true
 | _=>false
abbrev Hp:=Nat->Option Ob
def aK (S:Hp) (i:Nat) (o:Ob):Hp:=fun j=>if j=i then some o else S j
def bO (S' S:Hp):Prop:=∀i o,S' i=some o->S i=some o
abbrev KV:=V->Hp->Prop
def fR:V->Bool
 | .agg _=>false
 | .tuple _=>false
 | _=>true
def ofV:Value->Option V
 | .int k z=>some (.int k z)
 | .bool b=>some (.bool b)
 | .string ⟨⟨l⟩⟩=>some (.str l)
 | .pointer none=>some .Lq
 | .slice none 0 0=>some .nil
 | .nilIface=>some .Ug
 | .nilFunc=>some .Ix
 | .map none=>some .Qq
 | _=>none
def LO:List Value->Option (List V)
 | []=>some []
 | v::l=>match ofV v with
  | some x=>match LO l with | some xs=>some (x::xs) | none=>none
  | none=>none
def Gh:V:= .tuple []
def Gi{α:Type} (l:List α) (i:Nat) (k:α->Prop):Prop:=match l[i]? with | some a=>k a | none=>False
def XQ{α:Type} (l:List α) (o n:Nat) (k:List α->Prop):Prop:=o+n<=l.length/\k ((l.drop o).take n)
def fS (c:V) (a b:Prop):Prop:=match c with
 | .bool v=>match v with | true=>a | false=>b
 | _=>False
def Vz (c a b:V) (K:V->Prop):Prop:=match c with
 | .bool v=>match v with | true=>K a | false=>K b
 | _=>False
def aT (a:V) (S:Hp) (K:KV):Prop:=match a with
 | .ptr i o=>match S i with
  | some (.row vs _)=>Gi vs o fun v=>K v S
  | _=>False
 | .pI O cs o=>Gi cs o fun d=>K (T (.sub O o) d) S
 | .vY i n o=>match S i with
  | some (.fW vs _ m)=>m=n/\Gi vs o fun v=>K v S
  | _=>False
 | _=>False
def bN (n:Nat) (a:V) (S:Hp) (K:KV):Prop:=match a with
 | .ptr i o=>match S i with
  | some (.row vs _)=>XQ vs o n fun l=>K (.agg l) S
  | _=>False
 | .pI O cs o=>XQ cs o n fun l=>K (.agg (Tl O o l)) S
 | .vY i m o=>match S i with
  | some (.fW vs _ m')=>m'=m/\XQ vs o n fun l=>K (.agg l) S
  | _=>False
 | _=>False
def vZ (v:V) (k:List V->Prop):Prop:=match v with
 | .agg cs=>cs.all fR=true/\k cs
 | .tuple _=>False
 | v=>k [v]
def mL (n:Nat) (a x:V) (S:Hp) (k:Hp->Prop):Prop:=match a with
 | .ptr i o=>match S i with
  | some (.row vs t)=>vZ x fun cs=>cs.length=n/\o+n<=vs.length/\k (aK S i (.row (aY o cs vs) t))
  | _=>False
 | .vY i q o=>match S i with
  | some (.fW vs t m)=>m=q/\vZ x fun cs=>cs.length=n/\o+n<=vs.length/\k (aK S i (.fW (aY o cs vs) t m))
  | _=>False
 | _=>False
def aJE (vs:List V) (t:TypeId) (S:Hp) (K:Nat->Hp->Prop):Prop:=∀i,S i=none->K i (aK S i (.row vs t))
def rL (z:List Value) (k:List V->Prop):Prop:=match LO z with | some l=>k l | none=>False
def cW (z:List Value) (t:TypeId) (S:Hp) (K:KV):Prop:=rL z fun l=>aJE l t S fun i S=>K (.ptr i 0) S
def iD (t:TypeId) (v:V) (S:Hp) (K:KV):Prop:=vZ v fun cs=>aJE cs t S fun i S=>K (.ptr i 0) S
def iG:List (Nat×Nat×V)->List V->(List V->Prop)->Prop
 | [],cs,k=>k cs
 | (o,n,v)::ps,cs,k=>vZ v fun new=>new.length=n/\o+n<=cs.length/\iG ps (aY o new cs) k
def cV (zero:List Value) (ps:List (Nat×Nat×V)) (K:V->Prop):Prop:=rL zero fun z=>iG ps z fun cs=>K (.agg cs)
def aS (el:TypeId) (n:Nat) (zero:List Value) (ps:List (Nat×Nat×V)) (S:Hp) (K:KV):Prop:=
 rL zero fun z=>iG ps (List.replicate n z).flatten fun cs=>aJE cs el S fun i S=>K (.own i 0 n n) S
def aP (off:Nat) (x:V) (K:V->Prop):Prop:=match x with
 | .ptr i o=>K (.ptr i (o+off))
 | .pI O cs o=>K (.pI O cs (o+off))
 | .vY i n o=>K (.vY i n (o+off))
 | _=>False
def aDG (off:Nat) (x:V) (K:V->Prop):Prop:=match x with
 | .agg cs=>Gi cs off K
 | _=>False
def aAe (off n:Nat) (x:V) (K:V->Prop):Prop:=match x with
 | .agg cs=>XQ cs off n fun l=>K (.agg l)
 | _=>False
def cF (size:Nat) (x ix:V) (K:V->Prop):Prop:=match ix with
 | .int _ (.ofNat i)=>match x with
  | .list O cs n=>i<n/\K (.pI O cs (i*size))
  | .own b o n _=>i<n/\K (.ptr b (o+i*size))
  | .acc b n=>i<n/\K (.vY b n (i*size))
  | .ID b n o m _=>i<m/\K (.vY b n (o+i*size))
  | _=>False
 | _=>False
def aDH (x ix:V) (K:V->Prop):Prop:=match ix with
 | .int _ (.ofNat i)=>match x with
  | .str l=>Gi l i fun b=>K (.int .u8 (.ofNat b.toNat))
  | _=>False
 | _=>False
def tK (i:Nat) (x:V) (K:V->Prop):Prop:=match x with
 | .tuple vs=>Gi vs i K
 | _=>False
def LS (k:IntKind) (x:V) (K:V->Prop):Prop:=match x with
 | .int _ n=>K (.int k (sH k n))
 | _=>False
def bH (x:V) (K:V->Prop):Prop:=match x with
 | .list _ _ n=>K (.int .i64 (.ofNat n))
 | .nil=>K (.int .i64 (.ofNat 0))
 | .acc _ n=>K (.int .i64 (.ofNat n))
 | .own _ _ n _=>K (.int .i64 (.ofNat n))
 | .ID _ _ _ k _=>K (.int .i64 (.ofNat k))
 | .emp _ _=>K (.int .i64 (.ofNat 0))
 | _=>False
def aJF (x:V) (K:V->Prop):Prop:=match x with
 | .str l=>K (.int .i64 (.ofNat l.length))
 | _=>False
def Tx (size:Nat) (x:V) (S:Hp) (k:Nat->List V->Prop):Prop:=match x with
 | .nil=>k 0 []
 | .list O cs n=>n*size<=cs.length/\k n (Tl O 0 (cs.take (n*size)))
 | .own i o n _=>match S i with
  | some (.row vs _)=>XQ vs o (n*size) fun l=>k n l
  | _=>False
 | .acc i n=>match S i with
  | some (.fW vs _ m)=>m=n/\vs.length=n*size/\k n vs
  | _=>False
 | .ID i n o q _=>match S i with
  | some (.fW vs _ m)=>m=n/\XQ vs o (q*size) fun l=>k q l
  | _=>False
 | .emp _ _=>k 0 []
 | .str l=>size=1/\k l.length (l.map fun b=> .int .u8 (.ofNat b.toNat))
 | _=>False
def aNt (el:TypeId) (vs:List V) (n:Nat) (S:Hp) (K:KV):Prop:=∀i,S i=none->K (.acc i n) (aK S i (.fW vs el n))
def jT (el:TypeId) (size bytes:Nat) (s x:V) (S:Hp) (K:KV):Prop:=Tx size x S fun m new=>match m with
 | 0=>(match s with | .nil=>K s S | .acc _ _=>K s S | .own _ _ n c=>n<=c/\K s S | .list _ _ _=>K s S | _=>False)
 | m+1=>new.all fR=true/\match s with
  | .nil=>((m+1)*bytes<=140737488355328/\(m+1)<=140737488355328)/\aNt el new (m+1) S K
  | .acc i n=>match S i with
   | some (.fW vs t n')=>n'=n/\t=el/\vs.length=n*size/\((n+(m+1))*bytes<=140737488355328/\(n+(m+1))<=140737488355328)/\K (.acc i (n+(m+1))) (aK S i (.fW (vs++new) el (n+(m+1))))
   | _=>False
  | .own i o n c=>match S i with
   | some (.row vs t)=>((n+(m+1))*bytes<=140737488355328/\(n+(m+1))<=140737488355328)/\o+n*size<=vs.length/\
    (n+(m+1)<=c->o+n*size+new.length<=vs.length/\K (.own i o (n+(m+1)) c) (aK S i (.row (aY (o+n*size) new vs) t)))/\
    (c<n+(m+1)->aNt el ((vs.drop o).take (n*size)++new) (n+(m+1)) S K)
   | _=>False
  | _=>False
def oW (P:Program) (v:V) (K:V->Prop):Prop:=match v with
 | .ptr i o=>K (.ptr i o)
 | .pI O cs o=>K (.pI O cs o)
 | .vY i n o=>K (.vY i n o)
 | .func f a c=>K (.func f a c)
 | .iface t w=>K (.iface t w)
 | .KZ s v=>match v with
  | .iface t w=>match KT P t s with
   | some _=>K (.KZ s (.iface t w))
   | none=>False
  | _=>False
 | _=>False
abbrev aNu:=FuncId->List V->Hp->KV->Prop
def aQR (P:Program) (call:aNu) (r:V) (m:String) (args:List V) (S:Hp) (K:KV):Prop:=match r with
 | .iface t v=>match KT P t m with
  | some g=>call g (v::args) S K
  | none=>False
 | _=>False
def At (l:Nat) (S:Hp) (k:Hp->Prop):Prop:=match S l with
 | some (.loop ls vs n ps as bo .ready pe)=>k (aK S l (.loop ls vs n ps as bo .busy pe))
 | _=>False
def JI (l:Nat) (st:LoopState) (pe:Option Code) (b:Bool) (S:Hp) (K:KV):Prop:=match S l with
 | some (.loop ls vs n ps as bo _ _)=>K (.bool b) (aK S l (.loop ls vs n ps as bo st pe))
 | _=>False
def Wg (l:Nat) (S:Hp) (k:Option Code->Hp->Prop):Prop:=match S l with
 | some (.loop ls vs n ps as bo st pe)=>match st with
  | .busy=>False
  | _=>k pe (aK S l (.loop ls vs n ps as bo .exhausted pe))
 | _=>False
def UA (pe:Option Code) (kn kr:Prop) (ke:Nat->Prop):Prop:=match pe with
 | none=>kn
 | some .ret=>kr
 | some (.exit id)=>ke id
 | _=>False
def SP (l:Nat) (S:Hp) (p:Prop):Prop:=match S l with
 | some (.loop _ _ _ _ _ _ _ _)=>p
 | _=>False
abbrev Au (i id:Nat) (a b:Prop):Prop:=Bool.rec (motive:=fun _=>Prop) b a (Nat.beq i id)
def Nd:V->Bool
 | .int _ _ | .bool _ | .str _ | .list _ _ _ | .nil | .ptr _ _ | .Lq | .pI _ _ _ | .vY _ _ _ | .acc _ _ | .ID _ _ _ _ _ | .own _ _ _ _ | .yM _ | .Qq | .Ug | .Ix=>true
 | _=>false
def Nf:V->Bool
 | .func _ a c=>a.all Nd&&c.all Nd
 | v=>Nd v
def Ng:V->Bool
 | .agg cs=>cs.all Nf
 | v=>Nf v
def DS:V->Bool
 | .tuple cs=>cs.all Ng
 | v=>Ng v
def aZ (v u:V) (k:Prop):Prop:=v=u/\DS v=true/\k
def aJG (w:Bool) (v:V) (k:Bool->Prop):Prop:=match v with
 | .bool b=>match b,w with | true,true=>k true | false,false=>k true | _,_=>k false
 | .tuple []=>k false
 | _=>False
def PE (w:Bool) (v:V) (op:KV->Prop) (S:Hp) (k:KV):Prop:=aJG w v fun b=>match b with | true=>op k | false=>k Gh S
def aQS (u:V) (k:Prop):Prop:=match u with | .tuple []=>k | _=>False
def Gj (w:Bool) (v u:V) (op:Prop->Prop) (k:Prop):Prop:=aJG w v fun b=>match b with | true=>op k | false=>aQS u k
def UB (most:Nat) (p:Prop):Prop:=Nat.rec (motive:=fun _=>Prop->Prop) (fun x=>x) (fun _ _ x=>x) most p
theorem aF (most:Nat) (p:Prop):UB most p=p:=by cases most<;>rfl
def TU (op:BinOp) (k:IntKind) (x y:Int) (K:V->Prop):Prop:=match op with
 | .add=>K (.int k (sH k (x+y)))
 | .sub=>K (.int k (sH k (x-y)))
 | .mul=>K (.int k (sH k (x*y)))
 | .quo=>y≠0/\K (.int k (sH k (x.tdiv y)))
 | .rem=>y≠0/\K (.int k (x.tmod y))
 | .and=>K (.int k (k.wrap (BitVec.ofInt k.bits x &&& BitVec.ofInt k.bits y).toNat))
 | .or=>K (.int k (k.wrap (BitVec.ofInt k.bits x ||| BitVec.ofInt k.bits y).toNat))
 | .xor=>K (.int k (k.wrap (BitVec.ofInt k.bits x ^^^ BitVec.ofInt k.bits y).toNat))
 | .andNot=>K (.int k (k.wrap (BitVec.ofInt k.bits x &&& ~~~ BitVec.ofInt k.bits y).toNat))
 | .eql=>K (.bool (decide (x=y)))
 | .neq=>K (.bool (!decide (x=y)))
 | .lss=>K (.bool (decide (x<y)))
 | .leq=>K (.bool (decide (x<=y)))
 | .gtr=>K (.bool (decide (y<x)))
 | .geq=>K (.bool (decide (y<=x)))
 | _=>False
def aO6 (op:BinOp) (k:IntKind) (x y:Int) (K:V->Prop):Prop:=0<=y/\match op with
 | .shl=>K (.int k (sH k (x*2 ^ (min y.toNat k.bits))))
 | .shr=>K (.int k (x.fdiv (2 ^ (min y.toNat k.bits))))
 | _=>False
def aQT (op:BinOp) (a b:List UInt8) (K:V->Prop):Prop:=match op with
 | .add=>a.length+b.length<9223372036854775808/\K (.str (a++b))
 | .eql=>K (.bool (decide (a=b)))
 | .neq=>K (.bool (!decide (a=b)))
 | .lss=>K (.bool (Op.bytesLess a b))
 | _=>False
def aQU (op:BinOp) (a b:Bool) (K:V->Prop):Prop:=match op with
 | .eql=>K (.bool (decide (a=b)))
 | .neq=>K (.bool (!decide (a=b)))
 | _=>False
def yJ:BinOp->Bool
 | .shl | .shr=>true
 | _=>false
def aFu (P:Program) (t:TypeId):Bool:=match P.underlying t with | some .bool=>true | _=>false
inductive NK where
 | ptr
 | slice
 | map
 | func
 | iface
def aAf:V->Option (NK×Bool)
 | .ptr _ _=>some (.ptr,false)
 | .pI _ _ _=>some (.ptr,false)
 | .vY _ _ _=>some (.ptr,false)
 | .Lq=>some (.ptr,true)
 | .own _ _ _ _=>some (.slice,false)
 | .acc _ _=>some (.slice,false)
 | .ID _ _ _ _ _=>some (.slice,false)
 | .list _ (_::_) _=>some (.slice,false)
 | .nil=>some (.slice,true)
 | .yM _=>some (.map,false)
 | .Qq=>some (.map,true)
 | .func _ _ _=>some (.func,false)
 | .KZ _ _=>some (.func,false)
 | .Ix=>some (.func,true)
 | .iface _ _=>some (.iface,false)
 | .Ug=>some (.iface,true)
 | _=>none
def Fl (P:Program) (t:TypeId):Option NK:=match P.underlying t with
 | some (.pointer _)=>some .ptr
 | some (.slice _)=>some .slice
 | some (.map _ _)=>some .map
 | some (.func _ _ _)=>some .func
 | some (.interface _)=>some .iface
 | _=>none
def aDI (P:Program) (op:BinOp) (t:TypeId) (a b:V) (K:V->Prop):Prop:=match a with
 | .list _ [] _=>match b with
  | .nil=>Fl P t=some .slice/\match op with
   | .eql=>K (.bool true)/\K (.bool false)
   | .neq=>K (.bool true)/\K (.bool false)
   | _=>False
  | _=>False
 | _=>False
def aDJ (P:Program) (op:BinOp) (t:TypeId) (a b:V) (K:V->Prop):Prop:=match aAf a with
 | some (k,x)=>match aAf b with
  | some (l,y)=>k=l/\Fl P t=some k/\(x=true\/y=true)/\(x=true->y=true->k≠ .iface)/\match op with
   | .eql=>K (.bool (x&&y))
   | .neq=>K (.bool (!(x&&y)))
   | _=>False
  | none=>False
 | none=>aDI P op t a b K
def aH (P:Program) (op:BinOp) (t:TypeId) (a b:V) (K:V->Prop):Prop:=match a with
 | .int j x=>match b with
  | .int k y=>match yJ op with
   | true=>aO6 op j x y K
   | false=>j=k/\TU op j x y K
  | _=>False
 | .str x=>match b with | .str y=>aQT op x y K | _=>False
 | .bool x=>match b with | .bool y=>aFu P t=true/\aQU op x y K | _=>False
 | a=>aDJ P op t a b K
def Cq (big:Bool) (a b:V) (K:V->Prop):Prop:=match a with
 | .int j x=>match b with
  | .int _ y=>K (.int j (match big with | true=>max x y | false=>min x y))
  | _=>False
 | _=>False
inductive CT where
 | int (k:IntKind)
 | str
 | bool
inductive KSh where
 | one (c:CT)
 | many (l:List CT)
def Jb (P:Program) (t:TypeId):Option CT:=match P.underlying t with
 | some (.int k)=>some (.int k)
 | some .string=>some .str
 | some .bool=>some .bool
 | _=>none
def OD (P:Program):List Field->Option (List CT)
 | []=>some []
 | f::fs=>match Jb P f.type with
  | some c=>match OD P fs with
   | some l=>some (c::l)
   | none=>none
  | none=>none
def Qs (P:Program) (t:TypeId):Option KSh:=match Jb P t with
 | some c=>some (.one c)
 | none=>match RN P t with
  | some fs=>match OD P fs with
   | some l=>some (.many l)
   | none=>none
  | none=>none
def aGR:CT->V->Prop
 | .int k,.int j _=>j=k
 | .str,.str _=>True
 | .bool,.bool _=>True
 | _,_=>False
def Kq:List CT->List V->Prop
 | [],[]=>True
 | c::l,v::vs=>aGR c v/\Kq l vs
 | _,_=>False
def SW:KSh->V->Prop
 | .one c,v=>aGR c v
 | .many l,.agg cs=>Kq l cs
 | _,_=>False
open Classical in
def XR:List (V×V)->V->Option V
 | [],_=>none
 | e::es,a=>if a=e.1 then some e.2 else XR es a
open Classical in
def PF:List (V×V)->V->V->List (V×V)
 | [],a,x=>[(a,x)]
 | e::es,a,x=>if a=e.1 then(a,x)::es else e::PF es a x
def aO7 (P:Program) (op:BinOp) (t:TypeId) (a b:V) (K:V->Prop):Prop:=match Qs P t with
 | some (.many l)=>match a with
  | .agg x=>match b with
   | .agg y=>Kq l x/\Kq l y/\match op with
    | .eql=>(x=y->K (.bool true))/\(x≠y->K (.bool false))
    | .neq=>(x=y->K (.bool false))/\(x≠y->K (.bool true))
    | _=>False
   | _=>False
  | _=>False
 | _=>False
def Gk (S:Hp) (K:KV):Prop:=∀i,S i=none->K (.yM i) (aK S i (.map []))
def aAg (ok:Bool) (v:V) (is:Bool):V:=match ok with | true=> .tuple [v,.bool is] | false=>v
def Qt (sh:KSh) (z:V) (ok:Bool) (m a:V) (S:Hp) (K:KV):Prop:=match m with
 | .yM i=>match S i with
  | some (.map es)=>SW sh a/\(∀e∈es,SW sh e.1)/\(∀v,XR es a=some v->K (aAg ok v true) S)/\(XR es a=none->K (aAg ok z false) S)
  | _=>False
 | _=>False
def zT (sh:KSh) (m a x:V) (S:Hp) (k:Hp->Prop):Prop:=match m with
 | .yM i=>match S i with
  | some (.map es)=>SW sh a/\(∀e∈es,SW sh e.1)/\k (aK S i (.map (PF es a x)))
  | _=>False
 | _=>False
def Qu (x:V) (S:Hp) (K:KV):Prop:=match x with
 | .yM i=>match S i with
  | some (.map es)=>K (.int .i64 (.ofNat es.length)) S
  | _=>False
 | _=>False
def Gl (r:V) (S:Hp) (K:KV):Prop:=match r with
 | .int _ _=>Gk S K
 | _=>False
def HA (x:V) (S:Hp) (K:KV):Prop:=match x with
 | .yM m=>match S m with
  | some (.map es)=>∀bs ck,bs.length=es.length->bs.Pairwise (· < ·)->(∀b∈bs,b<ck)->∀i,aK S m (.wD es bs ck) i=none->K (.ptr i 0) (aK (aK S m (.wD es bs ck)) i (.iter m ck [] ck))
  | _=>False
 | _=>False
def MA (x:V) (S:Hp) (K:KV):Prop:=match x with
 | .ptr i 0=>match S i with
  | some (.iter m since seen last)=>match S m with
   | some (.wD es bs ck)=>(∀b∈bs,b<since)/\since<=last/\
    ((∀b∈bs,b∈seen)->K (.tuple [.bool false]) (aK S m (.map es)))/\
    ∀(j:Nat) (e:V×V) (b:Nat),es[j]? =some e->bs[j]? =some b->¬b∈seen->K (.tuple [.bool true,e.1,e.2]) (aK S i (.iter m since (seen++[b]) ck))
   | _=>False
  | _=>False
 | _=>False
def SX (x:V) (S:Hp) (K:KV):Prop:=match x with
 | .ptr i 0=>match S i with
  | some (.iter m _ seen last)=>match S m with
   | some (.wD es bs ck)=>ck=last/\bs.Pairwise (· < ·)/\∃(j:Nat) (e:V×V) (b:Nat),es[j]? =some e/\bs[j]? =some b/\seen.getLast?=some b/\K (.tuple [e.1,e.2]) S
   | _=>False
  | _=>False
 | _=>False
def Is (d:Nat) (o:Option V) (k:Nat->Prop):Prop:=match o with
 | none=>k d
 | some (.int _ (.ofNat n))=>k n
 | _=>False
def LV (len cap:Nat) (lo hi mx:Option V) (k:Nat->Nat->Nat->Prop):Prop:=Is cap mx fun m=>Is len hi fun h=>Is 0 lo fun l=>l<=h/\h<=m/\m<=cap/\k l h m
def aQV (x:V) (lo hi:Option V) (K:V->Prop):Prop:=match x with
 | .str s=>LV s.length s.length lo hi none fun l h _=>K (.str ((s.take h).drop l))
 | _=>False
def aQW (len size:Nat) (x:V) (lo hi mx:Option V) (K:V->Prop):Prop:=match x with
 | .ptr i o=>LV len len lo hi mx fun l h m=>K (.own i (if m=l then o else o+l*size) (h-l) (m-l))
 | _=>False
def LU (el size:Nat) (x:V) (lo hi mx:Option V) (S:Hp) (K:V->Prop):Prop:=match x with
 | .own i o n c=>LV n c lo hi mx fun l h m=>K (.own i (if m=l then o else o+l*size) (h-l) (m-l))
 | .list O cs n=>match mx with
  | some _=>LV n n lo hi mx fun l h m=>l<m/\h*size<=cs.length/\K (.list (.cut O (l*size) (h-l) (m-l)) ((cs.drop (l*size)).take ((h-l)*size)) (h-l))
  | none=>False
 | .nil=>LV 0 0 lo hi mx fun _ _ _=>K .nil
 | .acc i n=>match mx with
  | none=>match S i with
   | some (.fW _ t n')=>n'=n/\t=el/\LV n n lo hi none fun l h m=>(l<m->K (.ID i n (0+l*size) (h-l) (m-l)))/\(m=l->K (.emp i n))
   | _=>False
  | some _=>False
 | .ID i n o k c=>match mx with
  | none=>match S i with
   | some (.fW _ t n')=>n'=n/\t=el/\LV k c lo hi none fun l h m=>(l<m->K (.ID i n (o+l*size) (h-l) (m-l)))/\(m=l->K (.emp i n))
   | _=>False
  | some _=>False
 | _=>False
def Cw (zero:List Value) (x:V) (S:Hp) (k:Hp->Prop):Prop:=match x with
 | .nil=>k S
 | .own i o n _=>match n with
  | 0=>k S
  | n+1=>rL zero fun z=>match S i with
   | some (.row vs t)=>o+(List.replicate (n+1) z).flatten.length<=vs.length/\k (aK S i (.row (aY o (List.replicate (n+1) z).flatten vs) t))
   | _=>False
 | .acc i q=>match q with
  | 0=>k S
  | n+1=>rL zero fun z=>match S i with
   | some (.fW vs t m)=>m=q/\(List.replicate (n+1) z).flatten.length<=vs.length/\k (aK S i (.fW (aY 0 (List.replicate (n+1) z).flatten vs) t m))
   | _=>False
 | .ID i q o n _=>match n with
  | 0=>k S
  | n+1=>rL zero fun z=>match S i with
   | some (.fW vs t m)=>m=q/\o+(List.replicate (n+1) z).flatten.length<=vs.length/\k (aK S i (.fW (aY o (List.replicate (n+1) z).flatten vs) t m))
   | _=>False
 | _=>False
def Wh (size:Nat) (d x:V) (S:Hp) (K:KV):Prop:=Tx size x S fun m new=>match d with
 | .own i o n _=>m<=n/\match m with
  | 0=>K (.int .i64 (.ofNat 0)) S
  | q+1=>new.all fR=true/\match S i with
   | some (.row vs t)=>o+new.length<=vs.length/\K (.int .i64 (.ofNat (q+1))) (aK S i (.row (aY o new vs) t))
   | _=>False
 | _=>False
def vMk (el:TypeId) (bytes:Nat) (zero:List Value) (l c:V) (S:Hp) (K:KV):Prop:=match l with
 | .int _ (.ofNat l)=>match c with
  | .int _ (.ofNat c)=>l<=c/\bytes*c<=1099511627776/\c<=65536/\rL zero fun z=>aJE (List.replicate c z).flatten el S fun i S=>K (.own i 0 l c) S
  | _=>False
 | _=>False
def SO (op:UnOp) (a:V) (K:V->Prop):Prop:=match op with
 | .not=>match a with | .bool b=>K (.bool (!b)) | _=>False
 | .neg=>match a with | .int k n=>K (.int k (sH k (Int.sub 0 n))) | _=>False
 | .xor=>match a with | .int k n=>K (.int k (k.wrap (BitVec.ofInt k.bits (if k.signed then-1 else k.max) ^^^ BitVec.ofInt k.bits n).toNat)) | _=>False
 | _=>False
section
variable{α β:Type}
abbrev MB (n:Nat) (z:β) (s:Nat->β):β:=Nat.rec (motive:=fun _=>β) z (fun p _=>s p) n
abbrev aJH (o:Option α) (z:β) (s:α->β):β:=Option.rec (motive:=fun _=>β) z s o
abbrev aFv (z:β) (s:Nat->β->β) (n:Nat):β:=Nat.rec (motive:=fun _=>β) z s n
abbrev OE (z:β) (s:α->List α->β->β) (l:List α):β:=List.rec (motive:=fun _=>β) z s l
abbrev aJI (z:β) (s:Option α->Tr α->Tr α->β->β->β) (t:Tr α):β:=Tr.rec (motive:=fun _=>β) z s t
abbrev aO8 (t:Tr α) (z:β) (s:Option α->Tr α->Tr α->β):β:=Tr.rec (motive:=fun _=>β) z (fun v l r _ _=>s v l r) t
end
section
variable{α:Type}
abbrev aGU (t:Tr α) (n:Nat) (k:α->Prop):Prop:=
 aJI (β:=Nat->Prop) (fun _=>False) (fun v _ _ gl gr n=>MB n (aJH v False k) fun p=>MB (Nat.mod p 2) (gl (Nat.div p 2)) fun _=>gr (Nat.div p 2)) t n
abbrev aGV (x:α) (f:Nat):Tr α->Nat->(Tr α->Prop)->Prop:=
 aFv (β:=Tr α->Nat->(Tr α->Prop)->Prop) (fun t _ k=>k t)
  (fun _ ih t n k=>aO8 t
   (MB n (k (.node (some x) .leaf .leaf)) fun p=>MB (Nat.mod p 2) (ih .leaf (Nat.div p 2) fun c=>k (.node none c .leaf)) fun _=>ih .leaf (Nat.div p 2) fun c=>k (.node none .leaf c))
   (fun v l r=>MB n (k (.node (some x) l r)) fun p=>MB (Nat.mod p 2) (ih l (Nat.div p 2) fun c=>k (.node v c r)) fun _=>ih r (Nat.div p 2) fun c=>k (.node v l c))) f
abbrev aGW (t:Tr α) (n:Nat) (k:Prop):Prop:=
 aJI (β:=Nat->Prop) (fun _=>k) (fun v _ _ gl gr n=>MB n (aJH v k fun _=>False) fun p=>MB (Nat.mod p 2) (gl (Nat.div p 2)) fun _=>gr (Nat.div p 2)) t n
abbrev aJJ (t:Tr α) (n:Nat) (k:Tr α->Prop):Prop:=
 aJI (β:=Nat->(Tr α->Prop)->Prop) (fun _ k=>k .leaf) (fun v l r dl dr n k=>MB n (k (.node none l r)) fun p=>MB (Nat.mod p 2) (dl (Nat.div p 2) fun c=>k (.node v c r)) fun _=>dr (Nat.div p 2) fun c=>k (.node v l c)) t n k
end
structure VTm where
 t:Tr V
 n:Nat
structure VA where
 tmps:VTm
 g:Nat
abbrev Ui (T:VTm) (i:Nat) (k:V->Prop):Prop:=aGU T.t i k
abbrev Av (v:V) (T:VTm) (i:Nat) (k:VTm->Prop):Prop:=match T with
 | ⟨t,n⟩=>match Nat.blt i n with
  | true=>aGV v (Nat.succ i) t i fun t=>k ⟨t,n⟩
  | false=>False
abbrev Ra (A:VA) (d:Tmp) (v:V) (k:VA->Prop):Prop:=match A with
 | ⟨T,g⟩=>Av v T d fun T=>k ⟨T,g⟩
abbrev aQY (n:Nat) (args:List V) (k:VTm->Prop):Prop:=
 OE (β:=Nat->VTm->Prop) (fun _ T=>k T) (fun a _ ih i T=>Av a T i fun T=>ih (Nat.succ i) T) args 0 ⟨.leaf,n⟩
def ofC (v:Value):Option V:=match v with
 | .agg ⟨cs⟩=>match LO cs with | some l=>some (.agg l) | none=>none
 | v=>ofV v
structure EvV where
 f:VA->(V->Prop)->Prop
def AK (x:Operand):EvV:=match x with
 | .tmp t=>⟨fun A k=>Ui A.tmps t k⟩
 | .const v=>match ofC v with | some d=>⟨fun _ k=>k d⟩ | none=>⟨fun _ _=>False⟩
 | .global _=>⟨fun _ _=>False⟩
 | .func f=>⟨fun _ k=>k (.func f [] [])⟩
structure aQZ where
 f:VA->(List V->Prop)->Prop
def aGX (xs:List Operand):aQZ:=OE (β:=aQZ) ⟨fun _ k=>k []⟩ (fun x _ ih=>⟨fun A k=>(AK x).f A fun v=>ih.f A fun vs=>k (v::vs)⟩) xs
structure PtV where
 f:VA->(List (Nat×Nat×V)->Prop)->Prop
def Jd (place:Nat->Option (Nat×Nat)) (ps:List (Nat×Operand)):PtV:=
 OE (β:=PtV) ⟨fun _ k=>k []⟩ (fun p _ ih=>match place p.1 with
  | some (off,size)=>⟨fun A k=>(AK p.2).f A fun v=>ih.f A fun l=>k ((off,size,v)::l)⟩
  | none=>⟨fun _ _=>False⟩) ps
inductive Fi (S' S:Hp):V->Dt->Prop
 | int {k:IntKind} {z:Int}:Fi S' S (.int k z) (.int k z)
 | bool {b:Bool}:Fi S' S (.bool b) (.bool b)
 | str {l:List UInt8}:Fi S' S (.str l) (.str l)
 | list {O:Tag} {cs:List Dt} {n:Nat}:Fi S' S (.list O cs n) (.list cs n)
 | nil:Fi S' S .nil (.list [] 0)
 | acc {i n:Nat} {vs:List V} {t:TypeId} {cs:List Dt} (h:S i=some (.fW vs t n)) (hn:S' i=none) (hl:vs.length=cs.length) (hr:∀(j:Nat) (v:V) (d:Dt),vs[j]? =some v->cs[j]? =some d->Fi S' S v d):Fi S' S (.acc i n) (.list cs n)
 | ID {i n o k c:Nat} {vs:List V} {t:TypeId} {cs:List Dt} (h:S i=some (.fW vs t n)) (hn:S' i=none) (hc:k<=c) (hl:o+cs.length<=vs.length) (hr:∀(j:Nat) (v:V) (d:Dt),vs[o+j]? =some v->cs[j]? =some d->Fi S' S v d):Fi S' S (.ID i n o k c) (.list cs k)
 | own {i o n c:Nat} {vs:List V} {t:TypeId} {cs:List Dt} (h:S i=some (.row vs t)) (hn:S' i=none) (hc:n<=c) (hl:o+cs.length<=vs.length) (hr:∀(j:Nat) (v:V) (d:Dt),vs[o+j]? =some v->cs[j]? =some d->Fi S' S v d):Fi S' S (.own i o n c) (.list cs n)
inductive Fz1 (S' S:Hp) (O:Tag):V->V->Prop
 | lT (v:V):Fz1 S' S O v v
 | Ao {v:V} {d:Dt} (h:Fi S' S v d):Fz1 S' S O v (T O d)
def FzL (S' S:Hp) (O:Nat->Tag) (vs us:List V):Prop:=us.length=vs.length/\∀(j:Nat) (v u:V),vs[j]? =some v->us[j]? =some u->Fz1 S' S (O j) v u
inductive Fz (S' S:Hp) (O:Nat->Tag):V->V->Prop
 | one {v u:V} (h:Fz1 S' S (O 0) v u):Fz S' S O v u
 | agg {vs us:List V} (h:FzL S' S O vs us):Fz S' S O (.agg vs) (.agg us)
 | tup {vs us:List V} (h:FzL S' S O vs us):Fz S' S O (.tuple vs) (.tuple us)
 | aQ0 {as bs vs us:List V} (hl:bs.length=as.length) (h:FzL S' S (fun k=>O (k+(vs.length+1))) (as++vs) (bs++us)):Fz S' S O (.tuple (.agg as::vs)) (.tuple (.agg bs::us))
def bD (v:V) (S:Hp) (K:KV):Prop:=∃(S':Hp) (u:(Nat->Tag)->V),bO S' S/\(∀O,Fz S' S O v (u O))/\∀O,K (u O) S'
def cH (S:Hp) (k:Hp->Prop):Prop:=∃S',bO S' S/\k S'
structure VE where
 C:aNu
 R:Nat->List V->Hp->KV->Prop
 most:Nat
def VE.call (E:VE) (c:FuncId) (args:List V) (S:Hp) (K:KV):Prop:=∃(S':Hp) (us:(Nat->Tag)->List V),bO S' S/\(∀O,FzL S' S O args (us O))/\∀O,E.C c (us O) S' K
def lX (E:VE) (f:V) (args:List V) (S:Hp) (K:KV):Prop:=match f with
 | .func g a c=>E.call g (a++args++c) S K
 | .yield l=>E.R l args S K
 | _=>False
def PG (E:VE) (f:V) (ls:List Nat) (vs:List V) (n:Nat) (ps:List Tmp) (as bo:Code) (S:Hp) (k:Option Code->Hp->Prop):Prop:=match f with
 | .func g a c=>∀l,S l=none->E.call g (a++[.yield l]++c) (aK S l (.loop ls vs n ps as bo .ready none)) fun _ S=>Wg l S k
 | _=>False
structure OpV where
 f:VE->VA->Hp->KV->Prop
def EW:OpV:=⟨fun _ _ _ _=>False⟩
def aJK (P:Program) (c:Call):OpV:=
 match c.callee with
 | .builtin .len=>match c.argTypes.toList,c.args.toList with
  | [t],[a]=>match isSlice P t,P.underlying t with
   | some _,_=>⟨fun _ A S K=>(AK a).f A fun v=>bH v fun v=>K v S⟩
   | none,some .string=>⟨fun _ A S K=>(AK a).f A fun v=>aJF v fun v=>K v S⟩
   | none,some (.map _ _)=>⟨fun _ A S K=>(AK a).f A fun v=>Qu v S K⟩
   | _,_=>EW
  | _,_=>EW
 | .builtin .append=>match c.argTypes.toList,c.args.toList with
  | [sT,xT],[a,b]=>match isSlice P sT,Sw (P.underlying xT)with
   | some el,true=>match P.info? el with
    | some info=>match info.size,info.zero with
     | n+1,some z=>match Nat.beq z.cells.size (n+1),Nat.beq ((cN P el).getD 0) (n+1)with
      | true,true=>⟨fun _ A S K=>(AK a).f A fun a=>(AK b).f A fun b=>jT el (n+1) info.bytes a b S K⟩
      | _,_=>EW
     | _,_=>EW
    | none=>EW
   | _,_=>EW
  | _,_=>EW
 | .builtin .min=>match c.args.toList with
  | [a,b]=>⟨fun _ A S K=>(AK a).f A fun a=>(AK b).f A fun b=>Cq false a b fun v=>K v S⟩
  | _=>EW
 | .builtin .max=>match c.args.toList with
  | [a,b]=>⟨fun _ A S K=>(AK a).f A fun a=>(AK b).f A fun b=>Cq true a b fun v=>K v S⟩
  | _=>EW
 | .builtin .clear=>match c.argTypes.toList,c.args.toList with
  | [t],[a]=>match isSlice P t with
   | some el=>match cN P el,wM P el with
    | some (m+1),some zero=>match Nat.beq zero.length (m+1),xH bW zero with
     | true,true=>⟨fun _ A S K=>(AK a).f A fun a=>Cw zero a S fun S=>K Gh S⟩
     | _,_=>EW
    | _,_=>EW
   | none=>EW
  | _,_=>EW
 | .builtin .copy=>match c.argTypes.toList,c.args.toList with
  | dT::_,[a,b]=>match isSlice P dT with
   | some el=>match cN P el with
    | some (m+1)=>⟨fun _ A S K=>(AK a).f A fun a=>(AK b).f A fun b=>Wh (m+1) a b S K⟩
    | _=>EW
   | none=>EW
  | _,_=>EW
 | .builtin _=>EW
 | .value f=>⟨fun E A S K=>(aGX c.args.toList).f A fun args=>(AK f).f A fun f=>lX E f args S K⟩
 | .invoke r m=>⟨fun E A S K=>(aGX c.args.toList).f A fun args=>(AK r).f A fun v=>aQR P E.call v m args S K⟩
structure OvO where
 f:VA->(Option V->Prop)->Prop
def evO (x:Option Operand):OvO:=match x with
 | none=>⟨fun _ k=>k none⟩
 | some x=>⟨fun A k=>(AK x).f A fun v=>k (some v)⟩
def aNv (mx hi:Option Operand):Bool:=match mx,hi with | some _,none=>false | _,_=>true
def aDM (P:Program) (t:TypeId) (x:Operand) (lo hi mx:Option Operand):OpV:=
 match isSlice P t with
  | some el=>match cN P el with
   | some size=>⟨fun _ A S K=>(AK x).f A fun x=>(evO lo).f A fun lo=>(evO hi).f A fun hi=>(evO mx).f A fun mx=>LU el size x lo hi mx S fun v=>K v S⟩
   | none=>EW
  | none=>match P.underlying t with
   | some .string=>match mx with
    | none=>⟨fun _ A S K=>(AK x).f A fun x=>(evO lo).f A fun lo=>(evO hi).f A fun hi=>aQV x lo hi fun v=>K v S⟩
    | some _=>EW
   | some (.array len el)=>match cN P el with
    | some size=>⟨fun _ A S K=>(AK x).f A fun x=>(evO lo).f A fun lo=>(evO hi).f A fun hi=>(evO mx).f A fun mx=>aQW len size x lo hi mx fun v=>K v S⟩
    | none=>EW
   | _=>EW
def Cz (P:Program) (t:TypeId) (l c:Operand):OpV:=
 match isSlice P t with
  | some el=>match P.info? el,wM P el with
   | some info,some zero=>match Nat.beq zero.length info.size,info.size,xH bW zero with
    | true,_+1,true=>⟨fun _ A S K=>(AK l).f A fun l=>(AK c).f A fun c=>vMk el info.bytes zero l c S K⟩
    | _,_,_=>EW
   | _,_=>EW
  | none=>EW
def aAi (P:Program) (t:TypeId) (x ix:Operand) (ok:Bool):OpV:=match IJ P t with
 | some (kt,et)=>match Qs P kt,zeroV P et with
  | some sh,some z=>match ofC z with
   | some z=>⟨fun _ A S K=>(AK x).f A fun x=>(AK ix).f A fun ix=>Qt sh z ok x ix S K⟩
   | none=>EW
  | _,_=>EW
 | none=>EW
def aAj (P:Program) (t:TypeId) (m a x:Operand):OpV:=match IJ P t with
 | some (kt,_)=>match Qs P kt with
  | some sh=>⟨fun _ A S K=>(AK m).f A fun m=>(AK a).f A fun a=>(AK x).f A fun x=>zT sh m a x S fun S=>K Gh S⟩
  | none=>EW
 | none=>EW
def aB4 (P:Program) (t:TypeId):Bool:=match P.underlying t with | some (.interface _)=>false | some _=>true | none=>false
def opV (P:Program) (o:Oper):OpV:=
 match o.op with
 | .move x=>⟨fun _ A S K=>(AK x).f A fun v=>K v S⟩
 | .assign x=>⟨fun _ A S K=>(AK x).f A fun v=>K v S⟩
 | .pick c a b=>⟨fun E A S K=>(AK c).f A fun c=>(AK a).f A fun a=>(AK b).f A fun b=>UB E.most (Vz c a b fun v=>K v S)⟩
 | .alloc t=>match wM P t with
  | some z=>match xH bW z with
   | true=>⟨fun _ _ S K=>cW z t S K⟩
   | false=>EW
  | none=>EW
 | .box t x=>⟨fun _ A S K=>(AK x).f A fun v=>iD t v S K⟩
 | .build t ps=>match wM P t,P.underlying t with
  | some zero,some (.struct fields)=>match placesOf P fields.toList with
   | some pl=>match xH bW zero,ps.toList.all fun p=>(pl[p.1]?).isSome with
    | true,true=>⟨fun _ A S K=>(Jd (pl[·]?) ps.toList).f A fun l=>cV zero l fun v=>K v S⟩
    | _,_=>EW
   | none=>EW
  | some zero,some (.array _ elem)=>match cN P elem with
   | some size=>match xH bW zero with
    | true=>⟨fun _ A S K=>(Jd (fun i=>some (i*size,size)) ps.toList).f A fun l=>cV zero l fun v=>K v S⟩
    | false=>EW
   | none=>EW
  | _,_=>EW
 | .buildSlice t len ps=>match isSlice P t with
  | some elem=>match cN P elem,wM P elem with
   | some (size+1),some zero=>match Nat.ble (len*(size+1)) 16777216,Nat.beq zero.length (size+1)with
    | true,true=>match xH bW zero with
     | true=>⟨fun _ A S K=>(Jd (fun i=>some (i*(size+1),size+1)) ps.toList).f A fun l=>aS elem len zero l S K⟩
     | false=>EW
    | _,_=>EW
   | _,_=>EW
  | none=>EW
 | .load t a=>match xI P t,cN P t with
  | some false,_=>⟨fun _ A S K=>(AK a).f A fun a=>aT a S K⟩
  | some true,some (n+1)=>⟨fun _ A S K=>(AK a).f A fun a=>bN (n+1) a S K⟩
  | _,_=>EW
 | .store t a x=>match cN P t with
  | some n=>⟨fun _ A S K=>(AK a).f A fun a=>(AK x).f A fun x=>mL n a x S fun S=>K Gh S⟩
  | none=>EW
 | .nilCheck x=>⟨fun _ A S K=>(AK x).f A fun v=>oW P v fun v=>K v S⟩
 | .binOp op t x y _=>match xI P t with
  | some true=>⟨fun _ A S K=>(AK x).f A fun a=>(AK y).f A fun b=>aO7 P op t a b fun v=>K v S⟩
  | _=>⟨fun _ A S K=>(AK x).f A fun a=>(AK y).f A fun b=>aH P op t a b fun v=>K v S⟩
 | .unOp op _ x=>⟨fun _ A S K=>(AK x).f A fun a=>SO op a fun v=>K v S⟩
 | .convert s d x=>match P.underlying s,P.underlying d with
  | some (.int _),some (.int k)=>⟨fun _ A S K=>(AK x).f A fun a=>LS k a fun v=>K v S⟩
  | _,_=>EW
 | .makeInterface t x=>match aB4 P t with
  | true=>⟨fun _ A S K=>(AK x).f A fun v=>K (.iface t v) S⟩
  | false=>EW
 | .makeFunc fn first cap=>match fn with
  | .func f=>⟨fun _ A S K=>(aGX first.toList).f A fun a=>(aGX cap.toList).f A fun b=>K (.func f a b) S⟩
  | .method s=>match first.toList,cap.toList with
   | [x],[]=>⟨fun _ A S K=>(AK x).f A fun v=>K (.KZ s v) S⟩
   | _,_=>EW
  | _=>EW
 | .fieldAddr s x f=>match DB P s f with
  | some fd=>match cN P fd.type with
   | some (_+1)=>⟨fun _ A S K=>(AK x).f A fun x=>aP fd.offset x fun v=>K v S⟩
   | _=>EW
  | none=>EW
 | .field t x f=>match DB P t f with
  | some fd=>match xI P fd.type,cN P fd.type with
   | some false,_=>⟨fun _ A S K=>(AK x).f A fun x=>aDG fd.offset x fun v=>K v S⟩
   | some true,some n=>⟨fun _ A S K=>(AK x).f A fun x=>aAe fd.offset n x fun v=>K v S⟩
   | _,_=>EW
  | none=>EW
 | .indexAddr t x ix=>match isSlice P t with
  | some el=>match cN P el with
   | some n=>⟨fun _ A S K=>(AK x).f A fun x=>(AK ix).f A fun ix=>cF n x ix fun v=>K v S⟩
   | none=>EW
  | none=>EW
 | .index t x ix=>match P.underlying t with
  | some .string=>⟨fun _ A S K=>(AK x).f A fun x=>(AK ix).f A fun ix=>aDH x ix fun v=>K v S⟩
  | _=>EW
 | .slice t x lo hi mx=>match aNv mx hi with
  | true=>aDM P t x lo hi mx
  | false=>EW
 | .makeSlice t l c=>Cz P t l c
 | .makeMap _ none=>⟨fun _ _ S K=>Gk S K⟩
 | .makeMap t (some r)=>match IJ P t with
  | some _=>⟨fun _ A S K=>(AK r).f A fun r=>Gl r S K⟩
  | none=>EW
 | .range t x=>match IJ P t with
  | some _=>⟨fun _ A S K=>(AK x).f A fun x=>HA x S K⟩
  | none=>EW
 | .next it false=>⟨fun _ A S K=>(AK it).f A fun x=>MA x S K⟩
 | .entry it=>⟨fun _ A S K=>(AK it).f A fun x=>SX x S K⟩
 | .lookup t x ix ok=>aAi P t x ix ok
 | .mapUpdate t m k x=>aAj P t m k x
 | .insert t m k x=>aAj P t m k x
 | .extract t i=>⟨fun _ A S K=>(AK t).f A fun v=>tK i v fun v=>K v S⟩
 | .call c=>aJK P c
 | _=>EW
abbrev KSV:=VA->Hp->Prop
structure StV where
 f:VE->VA->Hp->KSV->Prop
structure ChV where
 f:VE->VA->Hp->Prop->Prop
def aNw (P:Program) (o:Oper):StV:=
 match o.dst with
 | some d=>⟨fun E A S k=>(opV P o).f E A S fun v S=>Ra A d v fun A=>k A S⟩
 | none=>⟨fun E A S k=>(opV P o).f E A S fun _ S=>k A S⟩
def doV (P:Program) (ops:Array Oper) (o:Oper):StV:=
 match o.guard with
 | none=>aNw P o
 | some (j,w)=>match ops[j]? with
  | some o'=>match o'.dst with
   | some g=>match o.dst with
    | some d=>⟨fun E A S k=>Ui A.tmps g fun b=>UB E.most (PE w b (fun k=>(opV P o).f E A S k) S fun v S=>Ra A d v fun A=>k A S)⟩
    | none=>⟨fun E A S k=>Ui A.tmps g fun b=>UB E.most (PE w b (fun k=>(opV P o).f E A S k) S fun _ S=>k A S)⟩
   | none=>⟨fun _ _ _ _=>False⟩
  | none=>⟨fun _ _ _ _=>False⟩
def opsV (P:Program) (ops:Array Oper) (l:List Oper):StV:=
 OE (β:=StV) ⟨fun _ A S k=>k A S⟩ (fun o _ ih=>⟨fun E A S k=>(doV P ops o).f E A S fun A S=>ih.f E A S k⟩) l
def ZP (P:Program) (ops:Array Oper) (l:List Nat):ChV:=
 OE (β:=ChV) ⟨fun _ _ _ k=>k⟩ (fun i _ ih=>match ops[i]? with
  | some o=>match o.dst with
   | some d=>match o.guard with
    | none=>⟨fun E A S k=>Ui A.tmps d fun u=>(opV P o).f E A S fun v _=>aZ v u (ih.f E A S k)⟩
    | some (j,w)=>match ops[j]? with
     | some o'=>match o'.dst with
      | some g=>⟨fun E A S k=>Ui A.tmps d fun u=>Ui A.tmps g fun b=>UB E.most (Gj w b u (fun k=>(opV P o).f E A S fun v _=>aZ v u k) (ih.f E A S k))⟩
      | none=>⟨fun _ _ _ _=>False⟩
     | none=>⟨fun _ _ _ _=>False⟩
   | none=>⟨fun _ _ _ _=>False⟩
  | none=>⟨fun _ _ _ _=>False⟩) l
def aB5 (P:Program) (ops:Array Oper) (i:Nat) (o:Oper):OpV:=match eV P ops i with
 | none=>opV P o
 | some _=>EW
def UC (P:Program) (ops:Array Oper) (l:List Nat):StV:=
 OE (β:=StV) ⟨fun _ A S k=>k A S⟩ (fun i _ ih=>match ops[i]? with
  | some o=>match o.dst with
   | some d=>⟨fun E A S k=>(aB5 P ops i o).f E A S fun v S=>Ra A d v fun A=>ih.f E A S k⟩
   | none=>⟨fun E A S k=>(aB5 P ops i o).f E A S fun _ S=>ih.f E A S k⟩
  | none=>⟨fun _ _ _ _=>False⟩) l
abbrev aO9 (A:VA) (o:Oper) (k:Prop):Prop:=match o.dst with
 | some d=>aGW A.tmps.t d k
 | none=>False
def aAk (P:Program) (ops:Array Oper) (l:List (Nat×List Nat)):ChV:=
 OE (β:=ChV) ⟨fun _ _ _ k=>k⟩ (fun p _ ih=>match ops[p.1]? with
  | some o=>⟨fun E A S k=>aO9 A o (((UC P ops p.2).f E A S fun A S=>(aB5 P ops p.1 o).f E A S fun _ _=>True)/\ih.f E A S k)⟩
  | none=>⟨fun _ _ _ _=>False⟩) l
def OF (P:Program) (ops:Array Oper) (l:List yT):StV:=
 OE (β:=StV) ⟨fun _ _ _ _=>False⟩ (fun s _ ih=>match s with
  | .take i=>match ops[i]? with
   | some o=>⟨fun E A S k=>(doV P ops o).f E A S fun A S=>ih.f E A S k⟩
   | none=>⟨fun _ _ _ _=>False⟩
  | .Vj BO nB D r FX=>match ops[r]? with
   | some o=>⟨fun E A S k=>(ZP P ops BO).f E A S ((aAk P ops nB).f E A S ((UC P ops D).f E A S fun A S=>(doV P ops o).f E A S fun A S=>(ZP P ops FX).f E A S (ih.f E A S k)))⟩
   | none=>⟨fun _ _ _ _=>False⟩
  | .fin BO nB D=>⟨fun E A S k=>(ZP P ops BO).f E A S ((aAk P ops nB).f E A S ((UC P ops D).f E A S k))⟩) l
abbrev aB6 (ops:Array Oper) (l:List Nat) (A:VA) (k:VA->Prop):Prop:=
 OE (β:=VA->Prop) k (fun i _ ih A=>match ops[i]? with
  | some o=>match o.dst with
   | some d=>match A with | ⟨⟨t,n⟩,g⟩=>aJJ t d fun t=>ih ⟨⟨t,n⟩,g⟩
   | none=>False
  | none=>False) l A
def MC (P:Program) (ops:Array Oper) (l:List yT):StV:=
 OE (β:=StV) ⟨fun _ A S k=>k A S⟩ (fun s _ ih=>match s with
  | .take i=>match ops[i]? with
   | some o=>⟨fun E A S k=>(doV P ops o).f E A S fun A S=>ih.f E A S k⟩
   | none=>⟨fun _ _ _ _=>False⟩
  | .Vj BO nB D r FX=>match ops[r]? with
   | some o=>⟨fun E A S k=>(ZP P ops BO).f E A S ((aAk P ops nB).f E A S ((UC P ops D).f E A S fun A S=>(doV P ops o).f E A S fun A S=>(ZP P ops FX).f E A S (ih.f E A S k)))⟩
   | none=>⟨fun _ _ _ _=>False⟩
  | .fin _ _ _=>⟨fun _ _ _ _=>False⟩) l
def aFw (w:Bool) (v:V) (k:Prop):Prop:=match v with
 | .bool b=>match w,b with | true,true=>k | false,false=>k | _,_=>False
 | _=>False
def aDN (P:Program) (p:WW):Array Oper->StV:=
 WW.rec (motive:=fun _=>Array Oper->StV) (fun l ops=>OF P ops l) (fun l g t b _ ih ops=>⟨fun E A S k=>(MC P ops l).f E A S fun A S=>Ui A.tmps t fun v=>aFw b v ((ih (eS ops g b)).f E A S k)⟩) p
def aMq (P:Program) (ops:Array Oper) (draw:Bool):StV:=
 match draw with
 | true=>match Er P ops with
  | some l=>match PY l with
   | []=>OF P ops l
   | ls=>⟨fun E A S k=>aB6 ops ls A fun A=>(OF P ops l).f E A S k⟩
  | none=>match LC ops with
   | true=>match Et P (ops.size+1) ops ⟨List.replicate ops.size false⟩ []with
    | some p=>⟨fun E A S k=>aB6 ops (Yn p) A fun A=>(aDN P p ops).f E A S k⟩
    | none=>⟨fun _ _ _ _=>False⟩
   | false=>⟨fun _ _ _ _=>False⟩
 | false=>opsV P ops ops.toList
abbrev CV:=yS->VA->Hp->Prop
structure CdV where
 f:VE->VA->Hp->CV->Prop
abbrev QQ (l:List Nat) (A:VA) (k:List V->Prop):Prop:=
 OE (β:=(List V->Prop)->Prop) (fun k=>k []) (fun i _ ih k=>Ui A.tmps i fun v=>ih fun vs=>k (v::vs)) l k
abbrev SY (l:List Nat) (vs:List V) (nt g:Nat) (k:VA->Prop):Prop:=
 OE (β:=List V->VTm->Prop) (fun _ T=>k ⟨T,g⟩) (fun i _ ih vs T=>match vs with | v::vs=>Av v T i fun T=>ih vs T | []=>False) l vs ⟨.leaf,nt⟩
abbrev LpV:=VE->List V->Nat->Hp->(yS->List V->Nat->Hp->Prop)->Prop
section
variable (P:Program) (tb:sI) (r:Option Nat)
abbrev aAl (a:Code) (ih:List V->Nat->Hp->Prop) (K:yS->List V->Nat->Hp->Prop):CV:=fun e A S=>match e with
 | .normal=>QQ (zD tb a) A fun vs=>ih vs A.tmps.n S
 | e=>QQ (Fd tb a e) A fun vs=>K e vs A.tmps.n S
def YV (a:Code) (body:CdV) (E:VE) (K:yS->List V->Nat->Hp->Prop):Nat->List V->Nat->Hp->Prop:=
 aFv (β:=List V->Nat->Hp->Prop) (fun _ _ _=>False) (fun _ ih vs n S=>cH S fun S=>SY (zD tb a) vs n P.globals.size fun A=>body.f E A S (aAl tb a ih K))
def aJL (a:Code) (body:CdV):LpV:=fun E vs n S K=>YV P tb a body E K E.most vs n S
abbrev aGY (a:Code) (K:CV):yS->List V->Nat->Hp->Prop:=fun e vs n S=>SY (Fd tb a e) vs n P.globals.size fun A=>K e A S
def aQ1 (a:Code) (lp:LpV):CdV:=⟨fun E A S K=>QQ (zD tb a) A fun vs=>lp E vs A.tmps.n S (aGY P tb a K)⟩
def aJM (l:List Nat) (b:CdV) (E:VE) (K:CV) (vs:List V) (n:Nat) (S:Hp):Prop:=MB E.most False fun _=>cH S fun S=>SY l vs n P.globals.size fun A=>b.f E A S K
abbrev aFx (j:Option (List Nat)) (b:CdV) (E:VE) (K:CV):CV:=fun e A S=>match e with
 | .normal=>match j with
  | none=>b.f E A S K
  | some l=>QQ l A fun vs=>aJM P l b E K vs A.tmps.n S
 | e=>K e A S
abbrev aDO (id:Nat) (K:CV):CV:=fun e A S=>match e with
 | .exit i=>Au i id (K .normal A S) (K (.exit i) A S)
 | e=>K e A S
def aAm (a:Code):List Nat:=match rJ a with | some i=>(tb.loop (1000000+i)).1 | none=>[]
def rOk (r:Option Nat) (S:Hp) (p:Prop):Prop:=match r with | none=>p | some l=>SP l S p
def aAn (f:Operand) (ps:Array Tmp) (as bo:Code):CdV:=⟨fun E A S K=>(AK f).f A fun f=>QQ (aAm tb bo) A fun vs=>rOk r S (PG E f (aAm tb bo) vs A.tmps.n ps.toList as bo S fun pe S=>UA pe (K .normal A S) (K .ret A S) fun id=>K (.exit id) A S)⟩
def sM (lp:Code->LpV):Code->CdV
 | .skip=>⟨fun _ A S K=>K .normal A S⟩
 | .region _ ops draw=>⟨fun E A S K=>(aMq P ops draw).f E A S fun A S=>K .normal A S⟩
 | .seq a b=>⟨fun E A S K=>(sM lp a).f E A S (aFx P (IN tb b) (sM lp b) E K)⟩
 | .cond c a b=>⟨fun E A S K=>(AK c).f A fun v=>fS v ((sM lp a).f E A S K) ((sM lp b).f E A S K)⟩
 | .block id a=>⟨fun E A S K=>(sM lp a).f E A S (aDO id K)⟩
 | .loop a=>aQ1 P tb a (lp a)
 | .scope a=>sM lp a
 | .rangeFunc f ps as bo=>aAn tb r f ps as bo
 | .exit id=>⟨fun _ A S K=>K (.exit id) A S⟩
 | .label _=>⟨fun _ A S K=>K .normal A S⟩
 | .ret=>⟨fun _ A S K=>K .ret A S⟩
 | _=>⟨fun _ _ _ _=>False⟩
def ZO:Nat->Code->LpV
 | 0=>fun _ _ _ _ _ _=>False
 | n+1=>fun a=>aJL P tb a (sM P tb r (ZO n) a)
end
section
variable (P:Program) (tb:FuncId->sI)
abbrev MD (rs:List ResultVar) (A:VA) (S:Hp) (k:List V->Prop):Prop:=
 OE (β:=(List V->Prop)->Prop) (fun k=>k []) (fun x _ ih k=>match x with
  | .tmp t=>Ui A.tmps t fun v=>ih fun vs=>k (v::vs)
  | .cell a t=>match xI P t,cN P t with
   | some false,_=>Ui A.tmps a fun a=>aT a S fun v _=>ih fun vs=>k (v::vs)
   | some true,some (n+1)=>Ui A.tmps a fun a=>bN (n+1) a S fun v _=>ih fun vs=>k (v::vs)
   | _,_=>False) rs k
abbrev aJN (fn:Func) (K:KV):CV:=fun e A S=>match e with
 | .exit _=>False
 | _=>MD P fn.results.toList A S fun vs=>match vs with | [v]=>bD v S K | vs=>bD (.tuple vs) S K
def jI (f:FuncId) (E:VE) (args:List V) (S:Hp) (K:KV):Prop:=
 match P.funcs[f]? with
 | some fn=>match fn.body with
  | some c=>aQY fn.ntmps args fun ts=>(sM P (tb f) none (ZO P (tb f) none FC) c).f E ⟨ts,P.globals.size⟩ S (aJN P fn K)
  | none=>False
 | none=>False
abbrev aQ2 (l:Nat) (K:KV):CV:=fun e _ S=>match e with
 | .normal=>JI l .ready none true S K
 | .ret=>JI l .done (some .ret) false S K
 | .exit id=>JI l .done (some (.exit id)) false S K
abbrev aPa (n l:Nat) (bo:Code) (E:VE) (K:KV):CV:=fun e A S=>match e with
 | .normal=>At l S fun S=>(sM P (tb (Io n bo)) (some l) (ZO P (tb (Io n bo)) (some l) FC) bo).f E A S (aQ2 l K)
 | _=>False
abbrev aJO (ps:List Tmp) (args:List V) (T:VTm) (k:VTm->Prop):Prop:=
 OE (β:=List V->VTm->Prop) (fun as T=>match as with | []=>k T | _=>False) (fun p _ ih as T=>match as with | a::as=>Av a T p fun T=>ih as T | []=>False) ps args T
def XT (E:VE) (n:Nat) (ps:List Tmp) (as bo:Code) (l:Nat) (vs args:List V) (S:Hp) (K:KV):Prop:=
 SY (Ag tb n bo) vs n P.globals.size fun A=>aJO ps args A.tmps fun T=>(sM P (tb (Io n bo)) (some l) (ZO P (tb (Io n bo)) (some l) FC) as).f E ⟨T,P.globals.size⟩ S (aPa P tb n l bo E K)
def Cy (E:VE) (l:Nat) (args:List V) (S:Hp) (K:KV):Prop:=match S l with
 | some (.loop ls vs n ps as bo _ _)=>ls=Ag tb n bo/\XT P tb E n ps as bo l vs args S K
 | _=>False
abbrev OvV:=FuncId->Option (List V->Hp->KV->Prop)
def aAh (ov:OvV) (most:Nat) (n:Nat):VE:=
 aFv (β:=VE) ⟨fun _ _ _ _=>False,fun _ _ _ _=>False,most⟩ (fun _ E=>⟨fun f args S K=>match ov f with | some g=>g args S K | none=>jI P tb f E args S K,fun l args S K=>Cy P tb E l args S K,most⟩) n
variable (Tb:sI) (r:Option Nat) (E:VE)
def tL:List Dir->Nat->Code->List Nat->CV->(Nat->Code->CV->Prop)->Prop
 | [],D,c,_,K,k=>k D c K
 | .l::p,D,.seq a b,ms,K,k=>tL p D a ms (aFx P (IN Tb b) (sM P Tb r (ZO P Tb r D) b) E K) k
 | .r::p,D,.seq _ b,ms,K,k=>tL p D b ms K k
 | .l::p,D,.cond _ a _,ms,K,k=>tL p D a ms K k
 | .r::p,D,.cond _ _ b,ms,K,k=>tL p D b ms K k
 | .d::p,D,.block id a,ms,K,k=>tL p D a ms (aDO id K) k
 | .d::p,D,.scope a,ms,K,k=>tL p D a ms K k
 | .d::p,D+1,.loop a,m::ms,K,k=>tL p D a ms (aAl Tb a (YV P Tb a (sM P Tb r (ZO P Tb r D) a) E (aGY P Tb a K) m) (aGY P Tb a K)) k
 | _,_,_,_,_,_=>False
def Qv (f:FuncId) (E:VE) (p:List Dir) (ms:List Nat) (vs:List V) (S:Hp) (K:KV):Prop:=
 match P.funcs[f]? with
 | some fn=>match fn.body with
  | some c=>tL P (tb f) none E p FC c ms (aJN P fn K) fun D c K=>match IN (tb f) c with
   | some l=>aJM P l (sM P (tb f) none (ZO P (tb f) none D) c) E K vs fn.ntmps S
   | none=>False
  | none=>False
 | none=>False
def Qw (f:FuncId) (E:VE) (p:List Dir) (ms:List Nat) (vs:List V) (S:Hp) (K:KV):Prop:=
 match P.funcs[f]? with
 | some fn=>match fn.body with
  | some c=>tL P (tb f) none E p FC c ms (aJN P fn K) fun D c K=>match IN (tb f) c with
   | some l=>cH S fun S=>SY l vs fn.ntmps P.globals.size fun A=>(sM P (tb f) none (ZO P (tb f) none D) c).f E A S K
   | none=>False
  | none=>False
 | none=>False
def dG (f:FuncId) (E:VE) (p:List Dir) (m:Nat) (ms:List Nat) (vs:List V) (S:Hp) (K:KV):Prop:=
 match P.funcs[f]? with
 | some fn=>match fn.body with
  | some c=>tL P (tb f) none E p FC c ms (aJN P fn K) fun D c K=>match D,c with
   | D+1,.loop a=>YV P (tb f) a (sM P (tb f) none (ZO P (tb f) none D) a) E (aGY P (tb f) a K) m vs fn.ntmps S
   | _,_=>False
  | none=>False
 | none=>False
def TA:List Dir->Code->Code
 | [],c=>c
 | .l::p,.seq a _=>TA p a
 | .r::p,.seq _ b=>TA p b
 | .l::p,.cond _ a _=>TA p a
 | .r::p,.cond _ _ b=>TA p b
 | .d::p,.block _ a=>TA p a
 | .d::p,.scope a=>TA p a
 | .d::p,.loop a=>TA p a
 | .d::p,.rangeFunc _ _ _ b=>TA p b
 | _,c=>c
def aPb (f:FuncId) (p:List Dir):Code:=match P.funcs[f]? with
 | some fn=>match fn.body with
  | some c=>TA p c
  | none=> .skip
 | none=> .skip
def DV (f:FuncId) (p:List Dir):List Tmp:=match aPb P f p with | .rangeFunc _ ps _ _=>ps.toList | _=>[]
def DW (f:FuncId) (p:List Dir):Code:=match aPb P f p with | .rangeFunc _ _ as _=>as | _=> .skip
def yK (f:FuncId) (p:List Dir):Code:=match aPb P f p with | .rangeFunc _ _ _ bo=>bo | _=> .skip
end
structure EX (B:Nat->Prop) (S S':St) (B':Nat->Prop):Prop where
 n:S.n<=S'.n
 same:∀i,i<S.n->¬B i->S'.obj i=S.obj i
 sub:∀i,B' i->B i\/S.n<=i
theorem EX.trans{B B1 B2:Nat->Prop}{S S1 S2:St} (h:EX B S S1 B1) (k:EX B1 S1 S2 B2):EX B S S2 B2:=by
 refine⟨zA h.n k.n,fun i hi hb=>?_,fun i hi=>?_⟩
 ·rw [k.same i (CX hi h.n) (fun Dl=>?_),h.same i hi hb]
  rcases h.sub i Dl with h1 | h1
  ·exact hb h1
  ·omega
 ·rcases k.sub i hi with h1 | h1
  ·exact h.sub i h1
  ·exact .inr (zA h.n h1)
theorem EX.refl (B:Nat->Prop) (S:St):EX B S S B:=⟨bR _,fun _ _ _=>rfl,fun _ h=> .inl h⟩
inductive It where
 | num
 | kind
 | int
 | is
 | text
 | Ih
 | list (its:List It)
def wIt:It->Nat
 | .num | .int=>8
 | .kind | .is=>1
 | .text=>16
 | .Ih | .list _=>24
def aC4 (l:List It):Nat:=(l.map wIt).foldr (· + ·) 0
inductive D where
 | n (z:Int)
 | b (v:Bool)
 | s (l:List UInt8)
 | l (es:List (List D))
def Wr (c:CK):Prop:=c= .rs\/c= .exact\/∃l,c= .grown l
inductive Rd (S:St) (C:Nat->Prop):It->Value->D->Prop where
 | num {z:Nat} (h:z<18446744073709551616):Rd S C .num (.int .u64 (.ofNat z)) (.n z)
 | kind {z:Nat} (h:z<256):Rd S C .kind (.int .u8 (.ofNat z)) (.n z)
 | int {z:Int} (h1: -9223372036854775808<=z) (h2:z<9223372036854775808):Rd S C .int (.int .i64 z) (.n z)
 | is {v:Bool}:Rd S C .is (.bool v) (.b v)
 | text {l:List UInt8} (h:l.length<=140737488355328):Rd S C .text (.string ⟨⟨l⟩⟩) (.s l)
 | Ih {v:Value} {es:List (List D)} (h:Rd S C (.list [.num]) v (.l es)):Rd S C .Ih v (.l es)
 | empty {its:List It}:Rd S C (.list its) (.slice none 0 0) (.l [])
 | Yj {its:List It} {b o s:Nat}:Rd S C (.list its) (.slice (some ⟨b,o,some (s+2)⟩) 0 0) (.l [])
 | row {its:List It} {b o n c:Nat} {sp:Option Nat} {vs:List Value} {e:TypeId} {ck:CK} {es:List (List D)} (AO:Sx sp=true) (hb:b<S.n) (hC:¬C b) (ho:S.obj b=some (.cells vs e ck)) (hw:Wr ck)
  (hn:es.length=n) (hl:o+n*its.length<=vs.length) (hd:∀ds∈es,ds.length=its.length) (hN:n<=140737488355328/\n*aC4 its<=140737488355328) (hnc:n<=c)
  (hr:∀(k:Nat) (ds:List D) (j:Nat) (it:It) (v:Value) (d:D),es[k]? =some ds->its[j]? =some it->vs[o+k*its.length+j]? =some v->ds[j]? =some d->Rd S C it v d):Rd S C (.list its) (.slice (some ⟨b,o,sp⟩) n c) (.l es)
theorem Rd.fr{S S':St}{C C':Nat->Prop} (f:EX C S S' C'){it:It}{v:Value}{d:D} (h:Rd S C it v d):Rd S' C' it v d:=by
 induction h with
 | num h=>exact .num h
 | kind h=>exact .kind h
 | int h1 h2=>exact .int h1 h2
 | is=>exact .is
 | text h=>exact .text h
 | Ih _ ih=>exact .Ih ih
 | empty=>exact .empty
 | Yj=>exact .Yj
 | row AO hb hC ho hw hn hl hd hN hnc _ ih=>
  refine .row AO (CX hb f.n) (fun h=>?_) (by rw [f.same _ hb hC];exact ho) hw hn hl hd hN hnc ih;rcases f.sub _ h with h | h
  ·exact hC h
  ·omega
theorem Rd.aBv{S:St}{C:Nat->Prop}{v:Value}{d:D} (h:Rd S C .kind v d):∃z:Nat,v= .int .u8 (.ofNat z)/\d= .n z/\z<256:=by
 cases h with | kind h=>exact⟨_,rfl,rfl,h⟩
theorem Rd.Yk{S:St}{C:Nat->Prop}{v:Value}{d:D} (h:Rd S C .int v d):∃z:Int,v= .int .i64 z/\d= .n z/\ -9223372036854775808<=z/\z<9223372036854775808:=by
 cases h with | int h1 h2=>exact⟨_,rfl,rfl,h1,h2⟩
structure SJ (S S':St):Prop where
 n:S.n<=S'.n
 same:∀i,i<S.n->S'.obj i=S.obj i
theorem SJ.fr{S S':St} (h:SJ S S') (B:Nat->Prop):EX B S S' B:=⟨h.n,fun i hi _=>h.same i hi,fun _ hi=> .inl hi⟩
theorem SJ.refl (S:St):SJ S S:=⟨bR _,fun _ _=>rfl⟩
structure RdA (S:St) (C:Nat->Prop) (its:List It) (cs:List Value) (ds:List D):Prop where
 len:cs.length=its.length
 Yi:ds.length=its.length
 rd:∀(j:Nat) (it:It) (v:Value) (d:D),its[j]? =some it->cs[j]? =some v->ds[j]? =some d->Rd S C it v d
theorem RdA.fr{S S':St}{C C':Nat->Prop}{its:List It}{cs:List Value}{ds:List D} (h:RdA S C its cs ds) (f:EX C S S' C'):RdA S' C' its cs ds:=⟨h.len,h.Yi,fun j it v d a b c=>(h.rd j it v d a b c).fr f⟩
theorem SJ.trans{a b c:St} (h:SJ a b) (k:SJ b c):SJ a c:=⟨zA h.n k.n,fun i hi=>by rw [k.same i (CX hi h.n),h.same i hi]⟩
theorem SJ.new (S:St) (o:iW):SJ S (S.new o):=⟨RJ _,fun _i hi=>gY (Nat.ne_of_lt hi)⟩
structure Cx where
 Z:Nat->Option Nat
 G:Nat->Nat->Option Value
 Yz:Nat->Option Value
 n0:Nat
structure Cx.le0 (c d:Cx):Prop where
 Z:∀i b,c.Z i=some b->d.Z i=some b
 G:∀i n v,c.G i n=some v->d.G i n=some v
 Yz:∀k v,c.Yz k=some v->d.Yz k=some v
structure Cx.le (c d:Cx):Prop where
 Z:∀i b,c.Z i=some b->d.Z i=some b
 G:∀i n v,c.G i n=some v->d.G i n=some v
 Yz:∀k v,c.Yz k=some v->d.Yz k=some v
 n0:d.n0=c.n0
theorem Cx.le.refl (c:Cx):c.le c:=⟨fun _ _ h=>h,fun _ _ _ h=>h,fun _ _ h=>h,rfl⟩
theorem Cx.le.trans{a b c:Cx} (h:a.le b) (k:b.le c):a.le c:=⟨fun i b e=>k.Z i b (h.Z i b e),fun i n v e=>k.G i n v (h.G i n v e),fun i v e=>k.Yz i v (h.Yz i v e),k.n0.trans h.n0⟩
theorem Cx.le.to0{a b:Cx} (h:a.le b):a.le0 b:=⟨h.Z,h.G,h.Yz⟩
structure Fc (C:Nat->Prop) (S S':St) (C':Nat->Prop):Prop where
 n:S.n<=S'.n
 same:∀b,b<S.n->¬C b->∀vs e ck,S.obj b=some (.cells vs e ck)->S'.obj b=some (.cells vs e ck)
 sub:∀b,C' b->C b\/S.n<=b
theorem Fc.of{C C':Nat->Prop}{S S':St} (f:EX C S S' C'):Fc C S S' C':=⟨f.n,fun b h1 h2 _ _ _ e=>by rw [f.same b h1 h2];exact e,f.sub⟩
inductive ZQ (S:St) (C:Nat->Prop):Dt->Value->Prop
 | int {k:IntKind} {z:Int}:ZQ S C (.int k z) (.int k z)
 | bool {b:Bool}:ZQ S C (.bool b) (.bool b)
 | str {l:List UInt8}:ZQ S C (.str l) (.string ⟨⟨l⟩⟩)
 | nil:ZQ S C (.list [] 0) (.slice none 0 0)
 | emp {b o s:Nat}:ZQ S C (.list [] 0) (.slice (some ⟨b,o,some (s+2)⟩) 0 0)
 | row {b o n c:Nat} {sp:Option Nat} {vs:List Value} {e:TypeId} {ck:CK} {cs:List Dt} (AO:Sx sp=true) (hb:b<S.n) (hC:¬C b) (ho:S.obj b=some (.cells vs e ck)) (hl:o+cs.length<=vs.length) (hn:n<=c)
  (hr:∀(j:Nat) (d:Dt) (v:Value),cs[j]? =some d->vs[o+j]? =some v->ZQ S C d v):ZQ S C (.list cs n) (.slice (some ⟨b,o,sp⟩) n c)
inductive TB (c:Cx) (S:St) (C:Nat->Prop):Tag->Value->Prop
 | root {k:Nat} {w:Value} (h:c.Yz k=some w):TB c S C (.root k) w
 | sub {O:Tag} {b o n cc k:Nat} {sp:Option Nat} {vs:List Value} {e:TypeId} {ck:CK} {w:Value} (h:TB c S C O (.slice (some ⟨b,o,sp⟩) n cc)) (hb:b<S.n) (hC:¬C b) (ho:S.obj b=some (.cells vs e ck)) (hv:vs[o+k]? =some w):TB c S C (.sub O k) w
 | cut {O:Tag} {b o n cc d k q:Nat} {sp:Option Nat} (h:TB c S C O (.slice (some ⟨b,o,sp⟩) n cc)):TB c S C (.cut O d k q) (.slice (some ⟨b,o+d,none⟩) k q)
inductive fI (c:Cx) (S:St) (C:Nat->Prop):V->Value->Prop
 | int {k:IntKind} {z:Int}:fI c S C (.int k z) (.int k z)
 | bool {b:Bool}:fI c S C (.bool b) (.bool b)
 | str {l:List UInt8}:fI c S C (.str l) (.string ⟨⟨l⟩⟩)
 | list {O:Tag} {cs:List Dt} {n:Nat} {w:Value} (ht:TB c S C O w) (hd:ZQ S C (.list cs n) w):fI c S C (.list O cs n) w
 | pI {O:Tag} {cs:List Dt} {b o n cc k:Nat} {sp:Option Nat} (ht:TB c S C O (.slice (some ⟨b,o,sp⟩) n cc)) (hd:ZQ S C (.list cs n) (.slice (some ⟨b,o,sp⟩) n cc)):fI c S C (.pI O cs k) (.pointer (some ⟨b,o+k,none⟩))
 | nil:fI c S C .nil (.slice none 0 0)
 | acc {i n:Nat} {w:Value} (h:c.G i n=some w):fI c S C (.acc i n) w
 | ID {i n o k cc b:Nat} (h:c.G i n=some (.slice (some ⟨b,0,some 0⟩) n n)):fI c S C (.ID i n o k cc) (.slice (some ⟨b,o,some 0⟩) k cc)
 | aJP {i n b:Nat} (h:c.G i n=some (.slice (some ⟨b,0,some 0⟩) n n)):fI c S C (.emp i n) (.slice (some ⟨b,0,some 1⟩) 0 0)
 | vY {i n o b:Nat} (h:c.G i n=some (.slice (some ⟨b,0,some 0⟩) n n)):fI c S C (.vY i n o) (.pointer (some ⟨b,o,none⟩))
 | own {i o n m b:Nat} (h:c.Z i=some b):fI c S C (.own i o n m) (.slice (some ⟨b,o,none⟩) n m)
 | ptr {i o b:Nat} (h:c.Z i=some b):fI c S C (.ptr i o) (.pointer (some ⟨b,o,none⟩))
 | Lq:fI c S C .Lq (.pointer none)
 | Ug:fI c S C .Ug .nilIface
 | yM {i b:Nat} (h:c.Z i=some b):fI c S C (.yM i) (.map (some b))
 | Qq:fI c S C .Qq (.map none)
 | Ix:fI c S C .Ix .nilFunc
 | yield {l b:Nat} (h:c.Z l=some b):fI c S C (.yield l) (.func (.yield b) ⟨[]⟩ ⟨[]⟩)
 | func {f:FuncId} {a d:List V} {a' d':List Value} (la:a.length=a'.length) (ld:d.length=d'.length) (ha:∀(k:Nat) (v:V) (w:Value),a[k]? =some v->a'[k]? =some w->fI c S C v w) (hd:∀(k:Nat) (v:V) (w:Value),d[k]? =some v->d'[k]? =some w->fI c S C v w):fI c S C (.func f a d) (.func (.func f) ⟨a'⟩ ⟨d'⟩)
 | KZ {s:String} {v:V} {w:Value} (h:fI c S C v w):fI c S C (.KZ s v) (.func (.method s) ⟨[w]⟩ ⟨[]⟩)
 | iface {t:TypeId} {v:V} {w:Value} (h:fI c S C v w):fI c S C (.iface t v) (.iface t w)
 | agg {a:List V} {a':List Value} (la:a.length=a'.length) (ha:∀(k:Nat) (v:V) (w:Value),a[k]? =some v->a'[k]? =some w->fI c S C v w):fI c S C (.agg a) (.agg ⟨a'⟩)
 | tuple {a:List V} {a':List Value} (la:a.length=a'.length) (ha:∀(k:Nat) (v:V) (w:Value),a[k]? =some v->a'[k]? =some w->fI c S C v w):fI c S C (.tuple a) (.tuple ⟨a'⟩)
structure lN (c:Cx) (S:St) (C:Nat->Prop) (a:List V) (a':List Value):Prop where
 len:a.length=a'.length
 rd:∀(k:Nat) (v:V) (w:Value),a[k]? =some v->a'[k]? =some w->fI c S C v w
section
variable{S S':St}{C C':Nat->Prop}{c d:Cx}
theorem ZQ.tO (f:Fc C S S' C'){x:Dt}{v:Value} (h:ZQ S C x v):ZQ S' C' x v:=by
 induction h with
 | int=>exact .int
 | bool=>exact .bool
 | str=>exact .str
 | nil=>exact .nil
 | emp=>exact .emp
 | row AO hb hC ho hl hn _ ih=>
  refine .row AO (CX hb f.n) (fun h=>?_) (f.same _ hb hC _ _ _ ho) hl hn ih;rcases f.sub _ h with h | h
  ·exact hC h
  ·omega
theorem TB.tO (l:c.le0 d) (f:Fc C S S' C'){O:Tag}{v:Value} (h:TB c S C O v):TB d S' C' O v:=by
 induction h with
 | root h=>exact .root (l.Yz _ _ h)
 | cut _ ih=>exact .cut ih
 | sub _ hb hC ho hv ih=>
  refine .sub ih (CX hb f.n) (fun h=>?_) (f.same _ hb hC _ _ _ ho) hv;rcases f.sub _ h with h | h
  ·exact hC h
  ·omega
theorem fI.tO (l:c.le0 d) (f:Fc C S S' C'){x:V}{v:Value} (h:fI c S C x v):fI d S' C' x v:=by
 induction h with
 | int=>exact .int
 | bool=>exact .bool
 | str=>exact .str
 | list ht hd=>exact .list (ht.tO l f) (hd.tO f)
 | pI ht hd=>exact .pI (ht.tO l f) (hd.tO f)
 | nil=>exact .nil
 | acc h=>exact .acc (l.G _ _ _ h)
 | vY h=>exact .vY (l.G _ _ _ h)
 | ID h=>exact .ID (l.G _ _ _ h)
 | aJP h=>exact .aJP (l.G _ _ _ h)
 | own h=>exact .own (l.Z _ _ h)
 | ptr h=>exact .ptr (l.Z _ _ h)
 | Lq=>exact .Lq
 | Ug=>exact .Ug
 | yM h=>exact .yM (l.Z _ _ h)
 | Qq=>exact .Qq
 | Ix=>exact .Ix
 | yield h=>exact .yield (l.Z _ _ h)
 | func la ld _ _ i1 i2=>exact .func la ld i1 i2
 | KZ _ ih=>exact .KZ ih
 | iface _ ih=>exact .iface ih
 | agg la _ ih=>exact .agg la ih
 | tuple la _ ih=>exact .tuple la ih
theorem ZQ.mono (f:EX C S S' C'){x:Dt}{v:Value} (h:ZQ S C x v):ZQ S' C' x v:=h.tO (.of f)
theorem fI.mono (l:c.le d) (f:EX C S S' C'){x:V}{v:Value} (h:fI c S C x v):fI d S' C' x v:=h.tO l.to0 (.of f)
theorem lN.tO (l:c.le0 d) (f:Fc C S S' C'){x:List V}{v:List Value} (h:lN c S C x v):lN d S' C' x v:=⟨h.len,fun k a b p q=>(h.rd k a b p q).tO l f⟩
theorem lN.mono (l:c.le d) (f:EX C S S' C'){x:List V}{v:List Value} (h:lN c S C x v):lN d S' C' x v:=⟨h.len,fun k a b p q=>(h.rd k a b p q).mono l f⟩
theorem TB.fn{O:Tag}{v:Value} (h:TB c S C O v):∀{w:Value},TB c S C O w->v=w:=by
 induction h with
 | root h=>
  intro w k;cases k with | root k=>rw [h]at k;injection k
 | cut _ ih=>
  intro w k;cases k with
  | cut h2=>
   have:=ih h2;injection this with e1 e2 e3;injection e1 with e1;injection e1 with e4 e5 e6;subst e4 e5;rfl
 | sub _ hb hC ho hv ih=>
  intro w k;cases k with
  | sub h2 NH hC2 BL hv2=>
   have:=ih h2;injection this with e1 e2 e3;injection e1 with e1;injection e1 with e4 e5 e6;subst e4 e5;rw [ho]at BL;injection BL with BL;injection BL with BL;subst BL;rw [hv]at hv2;injection hv2
theorem YW{a:List V}{x y:List Value} (hx:a.length=x.length) (hy:a.length=y.length) (h:∀(k:Nat) (v:V) (w:Value),a[k]? =some v->x[k]? =some w->∀{u:Value},fI c S C v u->w=u) (k:∀(k:Nat) (v:V) (w:Value),a[k]? =some v->y[k]? =some w->fI c S C v w):x=y:=by
 refine List.ext_getElem (by omega) fun i a1 a2=>?_;exact h i _ _ (aQ (by omega)) (aQ a1) (k i _ _ (aQ (by omega)) (aQ a2))
theorem fI.fn{x:V}{v:Value} (h:fI c S C x v):∀{w:Value},fI c S C x w->v=w:=by
 induction h with
 | int=>intro w k;cases k;rfl
 | bool=>intro w k;cases k;rfl
 | str=>intro w k;cases k;rfl
 | list ht _=>intro w k;cases k with | list ht2 _=>exact ht.fn ht2
 | pI ht _=>
  intro w k;cases k with
  | pI ht2 _=>
   have:=ht.fn ht2;injection this with e1 e2 e3;injection e1 with e1;injection e1 with e4 e5 e6;subst e4 e5;rfl
 | nil=>intro w k;cases k;rfl
 | acc h=>intro w k;cases k with | acc k=>rw [h]at k;injection k
 | ID h=>
  intro w k;cases k with
  | ID k=>
   rw [h]at k;injection k with k;injection k with e1 e2 e3;injection e1 with e1;injection e1 with e4 e5 e6;subst e4;rfl
 | aJP h=>
  intro w k;cases k with
  | aJP k=>
   rw [h]at k;injection k with k;injection k with e1 e2 e3;injection e1 with e1;injection e1 with e4 e5 e6;subst e4;rfl
 | vY h=>
  intro w k;cases k with
  | vY k=>
   rw [h]at k;injection k with k;injection k with e1 e2 e3;injection e1 with e1;injection e1 with e4 e5 e6;subst e4;rfl
 | own h=>intro w k;cases k with | own k=>rw [h]at k;injection k with k;subst k;rfl
 | ptr h=>intro w k;cases k with | ptr k=>rw [h]at k;injection k with k;subst k;rfl
 | Lq=>intro w k;cases k;rfl
 | Ug=>intro w k;cases k;rfl
 | Qq=>intro w k;cases k;rfl
 | yM h=>intro w k;cases k with | yM k=>rw [h]at k;injection k with k;subst k;rfl
 | Ix=>intro w k;cases k;rfl
 | yield h=>intro w k;cases k with | yield k=>rw [h]at k;injection k with k;subst k;rfl
 | func la ld _ _ i1 i2=>
  intro w k;cases k with
  | func la2 ld2 k1 k2=>rw [YW la la2 (fun k v w p q u=>i1 k v w p q) k1,YW ld ld2 (fun k v w p q u=>i2 k v w p q) k2]
 | KZ _ ih=>intro w k;cases k with | KZ k=>rw [ih k]
 | iface _ ih=>intro w k;cases k with | iface k=>rw [ih k]
 | agg la _ ih=>intro w k;cases k with | agg la2 k=>rw [YW la la2 (fun k v w p q u=>ih k v w p q) k]
 | tuple la _ ih=>intro w k;cases k with | tuple la2 k=>rw [YW la la2 (fun k v w p q u=>ih k v w p q) k]
theorem lN.nil:lN c S C [] []:=⟨rfl,fun k v w a=>by simp at a⟩
theorem lN.cons{v:V}{w:Value}{l:List V}{m:List Value} (h:fI c S C v w) (k:lN c S C l m):lN c S C (v::l) (w::m):=by
 refine⟨by simp [k.len],fun j x y a b=>?_⟩;cases j with
 | zero=>simp at a b;subst a b;exact h
 | succ j=>simp at a b;exact k.rd j x y a b
theorem lN.rK{m:List Value} (h:lN c S C [] m):m=[]:=rY (by simpa using h.len.symm)
theorem lN.cons_inv{v:V}{l:List V}{m:List Value} (h:lN c S C (v::l) m):∃w m',m=w::m'/\fI c S C v w/\lN c S C l m':=by
 cases m with
 | nil=>have:=h.len;simp at this
 | cons w m=>exact⟨w,m,rfl,h.rd 0 v w rfl rfl,by simpa using h.len,fun k x y a b=>h.rd (k+1) x y (by simpa using a) (by simpa using b)⟩
theorem lN.app{l l2:List V}{m m2:List Value} (h:lN c S C l m) (k:lN c S C l2 m2):lN c S C (l++l2) (m++m2):=by
 refine⟨by simp [h.len,k.len],fun j x y a b=>?_⟩;have hl:=h.len;by_cases hj:j<l.length
 ·rw [gI hj]at a
  rw [gI (by omega)]at b;exact h.rd j x y a b
 ·rw [kI (by omega)]at a b
  exact k.rd _ x y a (by rw [hl];exact b)
theorem lN.take{l:List V}{m:List Value} (h:lN c S C l m) (n:Nat):lN c S C (l.take n) (m.take n):=by
 refine⟨by simp [h.len],fun j x y a b=>?_⟩;rw [pK]at a b;split at a
 ·rename_i hj;rw [aJ hj]at b;exact h.rd j x y a b
 ·cases a
theorem lN.drop{l:List V}{m:List Value} (h:lN c S C l m) (n:Nat):lN c S C (l.drop n) (m.drop n):=by
 refine⟨by simp [h.len],fun j x y a b=>?_⟩;rw [oT]at a b;exact h.rd _ x y a b
theorem lN.aY{l n:List V}{m n':List Value} (h:lN c S C l m) (k:lN c S C n n') (o:Nat):lN c S C (Am.aY o n l) (Am.aY o n' m):=by
 unfold Am.aY;rw [<-k.len];exact((h.take o).app k).app (h.drop _)
theorem lN.get{l:List V}{m:List Value} (h:lN c S C l m){k:Nat}{v:V} (hv:l[k]? =some v):∃w,m[k]? =some w/\fI c S C v w:=by
 have hk:k<m.length:=by rw [<-h.len];exact(List.getElem?_eq_some_iff.1 hv).1
 exact⟨m[k],aQ hk,h.rd k v _ hv (aQ hk)⟩
theorem lN.flatten{l:List V}{m:List Value} (h:lN c S C l m) (n:Nat):lN c S C (List.replicate n l).flatten (List.replicate n m).flatten:=by
 induction n with
 | zero=>exact .nil
 | succ n ih=>simp only [IF,OS];exact h.app ih
theorem aB7{v:Value}{x:V} (h:ofV v=some x):bW v=true:=by
 unfold ofV at h;split at h<;>first | rfl | cases h
theorem aJQ{v:Value}{x:V} (h:ofV v=some x):fI c S C x v:=by
 unfold ofV at h;split at h<;>first | (injection h with h;subst h;first | exact .int | exact .bool | exact .str | exact .Lq | exact .nil | exact .Ug | exact .Ix | exact .Qq) | cases h
theorem YX:∀{z:List Value} {l:List V},LO z=some l->lN c S C l z:=by
 intro z;induction z with
 | nil=>intro l h;simp [LO]at h;subst h;exact .nil
 | cons v z ih=>
  intro l h;unfold LO at h;split at h
  ·rename_i x hx
   split at h
   ·rename_i xs hxs
    injection h with h;subst h;exact .cons (aJQ hx) (ih hxs)
   ·cases h
  ·cases h
end
theorem aPc{c:Cx}{S:St}{C:Nat->Prop}{O:Tag}{d:Dt}{w:Value} (h:ZQ S C d w) (ht:TB c S C O w):fI c S C (T O d) w:=by
 cases h with
 | int=>exact .int
 | bool=>exact .bool
 | str=>exact .str
 | nil=>exact .list ht .nil
 | emp=>exact .list ht .emp
 | row a b e f g i j=>exact .list ht (.row a b e f g i j)
def ME (es:List MapEntry) (ck:Nat):Prop:=(es.map (·.born)).Pairwise (· < ·)/\∀e∈es,e.born<ck
theorem ME.app{es:List MapEntry}{ck:Nat} (b:ME es ck){e:MapEntry} (he:e.born=ck):ME (es++[e]) (ck+1):=by
 refine⟨?_,fun x hx=>?_⟩
 ·rw [RI,List.pairwise_append]
  refine⟨b.1,by simp,fun x hx y hy=>?_⟩;obtain⟨z,hz,rfl⟩:=List.mem_map.1 hx;simp at hy;subst hy;rw [he];exact b.2 z hz
 ·rcases List.mem_append.1 hx with hx | hx
  ·have:=b.2 x hx;omega
  ·simp at hx;subst hx;omega
theorem ME.set{es:List MapEntry}{ck:Nat} (b:ME es ck){j:Nat}{e e2:MapEntry} (hj:es[j]? =some e) (he:e2.born=e.born):ME (es.set j e2) ck:=by
 have hm:(es.set j e2).map (·.born)=es.map (·.born):=by
  apply xE;intro k;rw [dO,dO,Nn];split
  ·rename_i h;subst h
   have hlt:=(List.getElem?_eq_some_iff.1 hj).1;rw [aJ hlt,hj];simp [he]
  ·rfl
 refine⟨by rw [hm];exact b.1,fun x hx=>?_⟩;obtain⟨k,hk⟩:=Bh hx;have h1:((es.set j e2).map (·.born))[k]? =some x.born:=by rw [dO,hk];rfl
 rw [hm,dO]at h1;cases hq:es[k]? with
 | none=>rw [hq]at h1;cases h1
 | some y=>
  rw [hq]at h1;simp at h1;rw [<-h1];exact b.2 y (CW hq)
def ObR (c:Cx) (S:St) (C:Nat->Prop) (o:Ob) (a:iW):Prop:=match o with
 | .row vs t=>∃ws,a= .cells ws t .exact/\lN c S C vs ws
 | .fW _ _ _=>False
 | .map es=>∃jO clock,a= .map jO clock/\ME jO clock/\es.length=jO.length/\∀(k:Nat) (x:V×V) (y:MapEntry),es[k]? =some x->jO[k]? =some y->fI c S C x.1 y.key/\fI c S C x.2 y.val
 | .wD es bs ck=>∃jO,a= .map jO ck/\jO.map (·.born)=bs/\ME jO ck/\es.length=jO.length/\∀(k:Nat) (x:V×V) (y:MapEntry),es[k]? =some x->jO[k]? =some y->fI c S C x.1 y.key/\fI c S C x.2 y.val
 | .iter m since seen last=>∃r,a= .iter (some r) since seen last/\c.Z m=some r
 | .loop ls vs n ps as bo st pe=>∃T,a= .loop T ps as bo st pe/\n=T.n/\vs.length=ls.length/\∀(j i:Nat) (v:V),ls[j]? =some i->vs[j]? =some v->∃w,T.t.get i=some w/\fI c S C v w
theorem ObR.tO{c d:Cx}{S S':St}{C C':Nat->Prop} (l:c.le0 d) (f:Fc C S S' C'){o:Ob}{a:iW} (h:ObR c S C o a):ObR d S' C' o a:=by
 cases o with
 | row vs t=>obtain⟨ws,e,r⟩:=h;exact⟨ws,e,r.tO l f⟩
 | fW=>exact h
 | map es=>
  obtain⟨jO,k,e,hb,hl,r⟩:=h;exact⟨jO,k,e,hb,hl,fun i x y p q=>⟨(r i x y p q).1.tO l f,(r i x y p q).2.tO l f⟩⟩
 | wD es bs ck=>
  obtain⟨jO,e,hbs,hb,hl,r⟩:=h;exact⟨jO,e,hbs,hb,hl,fun i x y p q=>⟨(r i x y p q).1.tO l f,(r i x y p q).2.tO l f⟩⟩
 | iter m since seen last=>
  obtain⟨r,e,q⟩:=h;exact⟨r,e,l.Z _ _ q⟩
 | loop ls vs n ps as bo st pe=>
  obtain⟨T,e,hn,q,r⟩:=h;exact⟨T,e,hn,q,fun j i v p p2=>let⟨w,a,b⟩:=r j i v p p2;⟨w,a,b.tO l f⟩⟩
theorem ObR.mono{c d:Cx}{S S':St}{C C':Nat->Prop} (l:c.le d) (f:EX C S S' C'){o:Ob}{a:iW} (h:ObR c S C o a):ObR d S' C' o a:=h.tO l.to0 (.of f)
def tP (c:Cx) (h:Hp) (i b:Nat):Prop:=(∃o,h i=some o/\Qr o=false/\c.Z i=some b)\/∃vs t n m,h i=some (.fW vs t n)/\c.G i m=some (.slice (some ⟨b,0,some 0⟩) m m)
section
variable (P:Program) (B:Nat->Prop) (Sb:St)
def dI (c:Cx) (h:Hp):Nat->Prop:=fun b=>B b\/∃i,tP c h i b
structure VS (c:Cx) (h:Hp) (S:St):Prop where
 base:SJ Sb S
 bB:∀b,B b->b<Sb.n
 ob:∀i o,h i=some o->Qr o=false->∃b a,c.Z i=some b/\Sb.n<=b/\b<S.n/\S.obj b=some a/\ObR c S (dI B c h) o a
 fW:∀i vs t n,h i=some (.fW vs t n)->∃b ws olds sz,c.G i n=some (.slice (some ⟨b,0,some 0⟩) n n)/\Sb.n<=b/\b<S.n/\S.obj b=some (.cells ws t (.grown olds))/\lN c S (dI B c h) vs ws/\cN P t=some sz/\vs.length=n*sz/\∀m,n<m->c.G i m=none
 inj:∀i j b,tP c h i b->tP c h j b->i=j
 Gs:∀i n w,c.G i n=some w->∃b,w= .slice (some ⟨b,0,some 0⟩) n n
 room:∃N,∀i,N<=i->h i=none/\c.Z i=none/\∀n,c.G i n=none
 XU:∃M,∀k,M<=k->c.Yz k=none
 Gb:∀i vs t n m b,h i=some (.fW vs t n)->c.G i m=some (.slice (some ⟨b,0,some 0⟩) m m)->Sb.n<=b/\b<S.n
 old:∀i vs t n b ws e olds,h i=some (.fW vs t n)->c.G i n=some (.slice (some ⟨b,0,some 0⟩) n n)->S.obj b=some (.cells ws e (.grown olds))->∀x∈olds,∃m,c.G i m=some (.slice (some ⟨x,0,some 0⟩) m m)
end
section
variable{P:Program}{B:Nat->Prop}{Sb:St}{c d:Cx}{h h':Hp}{S S':St}
theorem VS.row (s:VS P B Sb c h S) (i:Nat) (vs:List V) (t:TypeId) (e:h i=some (.row vs t)):∃b ws,c.Z i=some b/\Sb.n<=b/\b<S.n/\S.obj b=some (.cells ws t .exact)/\lN c S (dI B c h) vs ws:=by
 obtain⟨b,a,a1,a2,a3,a4,ws,rfl,a5⟩:=s.ob i _ e rfl;exact⟨b,ws,a1,a2,a3,a4,a5⟩
theorem VS.bd (s:VS P B Sb c h S){i b:Nat} (l:tP c h i b):Sb.n<=b/\b<S.n:=by
 rcases l with ⟨o,e1,eg,e2⟩ | ⟨vs,t,n,m,e1,e2⟩
 ·obtain⟨b',ws,a1,a2,a3,_⟩:=s.ob i o e1 eg
  rw [e2]at a1;injection a1 with a1;subst a1;exact⟨a2,a3⟩
 ·exact s.Gb i vs t n m b e1 e2
theorem VS.fresh (s:VS P B Sb c h S):∃i,h i=none/\c.Z i=none/\∀n,c.G i n=none:=by
 obtain⟨N,hN⟩:=s.room;exact⟨N,hN N (bR _)⟩
theorem VS.aGZ (s:VS P B Sb c h S){b:Nat} (l:dI B c h b):b<S.n:=by
 rcases l with l | ⟨i,l⟩
 ·exact CX (s.bB b l) s.base.n
 ·exact(s.bd l).2
def Cx.putZ (c:Cx) (i b:Nat):Cx:=⟨fun j=>if j=i then some b else c.Z j,c.G,c.Yz,c.n0⟩
def Cx.putG (c:Cx) (i n:Nat) (w:Value):Cx:=⟨c.Z,fun j m=>if j=i/\m=n then some w else c.G j m,c.Yz,c.n0⟩
theorem Cx.putZ_le{i b:Nat} (hi:c.Z i=none):c.le (c.putZ i b):=by
 refine⟨fun j x e=>?_,fun _ _ _ e=>e,fun _ _ e=>e,rfl⟩;show(if j=i then some b else c.Z j)=some x;rw [aG (fun e2=>by subst e2;rw [hi]at e;cases e)];exact e
theorem Cx.putG_le{i n:Nat}{w:Value} (hi:c.G i n=none):c.le (c.putG i n w):=by
 refine⟨fun _ _ e=>e,fun j m x e=>?_,fun _ _ e=>e,rfl⟩;show(if j=i/\m=n then some w else c.G j m)=some x;rw [aG (fun e2=>by obtain⟨rfl,rfl⟩:=e2;rw [hi]at e;cases e)];exact e
theorem aC{i:Nat}{o:Ob}:aK h i o i=some o:=aJ rfl
theorem aB{i j:Nat}{o:Ob} (e:j≠i):aK h i o j=h j:=aG e
theorem VS.aFy (s:VS P B Sb c h S){i:Nat} (_h0:h i=none) (h1:c.Z i=none) (_h2:∀n,c.G i n=none){o:Ob}{ao:iW} (hg:Qr o=false) (ho:∀d S' C',c.le d->EX (dI B c h) S S' C'->ObR d S' C' o ao):
 VS P B Sb (c.putZ i S.n) (aK h i o) (S.new ao)/\c.le (c.putZ i S.n)/\EX (dI B c h) S (S.new ao) (dI B (c.putZ i S.n) (aK h i o))/\(c.putZ i S.n).Z i=some S.n:=by
 have le:=Cx.putZ_le (c:=c) (i:=i) (b:=S.n) h1
 have ZR:∀j b,tP (c.putZ i S.n) (aK h i o) j b->(j=i/\b=S.n)\/(j≠i/\tP c h j b):=by
  intro j b l;by_cases e:j=i
  ·subst e
   rcases l with ⟨o',_,_,e2⟩ | ⟨vs',t',n,m,e1,e2⟩
   ·have:(if j=j then some S.n else c.Z j)=some b:=e2
    rw [aJ rfl]at this;injection this with this;exact .inl ⟨rfl,this.symm⟩
   ·rw [aC]at e1;injection e1 with e1;subst e1;cases hg
  ·refine .inr ⟨e,?_⟩
   rcases l with ⟨o',e1,eg,e2⟩ | ⟨vs',t',n,m,e1,e2⟩
   ·rw [aB e]at e1
    have e2:(if j=i then some S.n else c.Z j)=some b:=e2;rw [aG e]at e2;exact .inl ⟨o',e1,eg,e2⟩
   ·rw [aB e]at e1
    exact .inr ⟨vs',t',n,m,e1,e2⟩
 have fr:EX (dI B c h) S (S.new ao) (dI B (c.putZ i S.n) (aK h i o)):=by
  refine⟨RJ _,fun j hj _=>gY (Nat.ne_of_lt hj),fun b l=>?_⟩;rcases l with l | ⟨j,l⟩
  ·exact .inl (.inl l)
  ·rcases ZR j b l with ⟨_,e⟩ | ⟨_,l⟩
   ·exact .inr (Bu e.symm)
   ·exact .inl (.inr ⟨j,l⟩)
 refine⟨⟨s.base.trans (.new S _),s.bB,?_,?_,?_,s.Gs,?_,s.XU,?_,?_⟩,le,fr,aJ rfl⟩
 ·intro j o' e eg
  by_cases e2:j=i
  ·subst e2
   rw [aC]at e;injection e with e;subst e;exact⟨S.n,ao,aJ rfl,s.base.n,xF _,uU,ho _ _ _ le fr⟩
  ·rw [aB e2]at e
   obtain⟨b,a',a1,a2,a3,a4,a5⟩:=s.ob j o' e eg;exact⟨b,a',le.Z _ _ a1,a2,rZ a3,by rw [gY (by omega)];exact a4,a5.mono le fr⟩
 ·intro j vs' t' n e
  have e2:j≠i:=fun e2=>by subst e2;rw [aC]at e;injection e with e;subst e;cases hg
  rw [aB e2]at e;obtain⟨b,ws',olds,sz,a1,a2,a3,a4,a5,a6⟩:=s.fW j vs' t' n e;exact⟨b,ws',olds,sz,a1,a2,rZ a3,by rw [gY (by omega)];exact a4,a5.mono le fr,a6⟩
 ·intro j k b l1 l2
  rcases ZR j b l1 with ⟨e1,e2⟩ | ⟨e1,l1⟩
  ·rcases ZR k b l2 with ⟨e3,e4⟩ | ⟨e3,l2⟩
   ·rw [e1,e3]
   ·have:=(s.bd l2).2;omega
  ·rcases ZR k b l2 with ⟨e3,e4⟩ | ⟨e3,l2⟩
   ·have:=(s.bd l1).2;omega
   ·exact s.inj j k b l1 l2
 ·obtain⟨N,hN⟩:=s.room
  refine⟨max N (i+1),fun j hj=>?_⟩;obtain⟨a1,a2,a3⟩:=hN j (by omega);exact⟨by rw [aB (by omega)];exact a1,by show(if j=i then _ else c.Z j)=none;rw [aG (by omega)];exact a2,a3⟩
 ·intro j vs' t' n m b e e3
  have e2:j≠i:=fun e2=>by subst e2;rw [aC]at e;injection e with e;subst e;cases hg
  rw [aB e2]at e;obtain⟨q1,q2⟩:=s.Gb j vs' t' n m b e e3;exact⟨q1,rZ q2⟩
 ·intro j vs' t' n b ws' e' olds e e3 e4
  have e2:j≠i:=fun e2=>by subst e2;rw [aC]at e;injection e with e;subst e;cases hg
  rw [aB e2]at e;rw [gY (by have:=(s.Gb j vs' t' n n b e e3).2;omega)]at e4;exact s.old j vs' t' n b ws' e' olds e e3 e4
theorem VS.newRow (s:VS P B Sb c h S){i:Nat} (h0:h i=none) (h1:c.Z i=none) (h2:∀n,c.G i n=none){vs:List V}{ws:List Value} (t:TypeId) (hv:lN c S (dI B c h) vs ws):
 VS P B Sb (c.putZ i S.n) (aK h i (.row vs t)) (S.new (.cells ws t .exact))/\c.le (c.putZ i S.n)/\EX (dI B c h) S (S.new (.cells ws t .exact)) (dI B (c.putZ i S.n) (aK h i (.row vs t)))/\(c.putZ i S.n).Z i=some S.n:=
 s.aFy h0 h1 h2 (o:= .row vs t) rfl fun _ _ _ l f=>⟨ws,rfl,hv.mono l f⟩
theorem VS.Wk (s:VS P B Sb c h S){i b:Nat}{o0 o:Ob} (h0:h i=some o0) (g0:Qr o0=false) (h1:c.Z i=some b){ao:iW} (hg:Qr o=false) (ho:∀S' C',EX (dI B c h) S S' C'->ObR c S' C' o ao):
 VS P B Sb c (aK h i o) (S.set b ao)/\EX (dI B c h) S (S.set b ao) (dI B c (aK h i o)):=by
 have hb:tP c h i b:= .inl ⟨o0,h0,g0,h1⟩;obtain⟨g1,g2⟩:=s.bd hb
 have ZR:∀j x,tP c (aK h i o) j x->tP c h j x:=by
  intro j x l;by_cases e:j=i
  ·subst e
   rcases l with ⟨o',e1,eg,e2⟩ | ⟨vs2,t2,n,m,e1,e2⟩
   ·exact .inl ⟨o0,h0,g0,e2⟩
   ·rw [aC]at e1;injection e1 with e1;subst e1;cases hg
  ·rcases l with ⟨o',e1,eg,e2⟩ | ⟨vs2,t2,n,m,e1,e2⟩
   ·rw [aB e]at e1;exact .inl ⟨o',e1,eg,e2⟩
   ·rw [aB e]at e1;exact .inr ⟨vs2,t2,n,m,e1,e2⟩
 have fr:EX (dI B c h) S (S.set b ao) (dI B c (aK h i o)):=by
  refine⟨bR _,fun j _ hc=>kY fun e=>hc (.inr ⟨i,e▸hb⟩),fun x l=>?_⟩;rcases l with l | ⟨j,l⟩
  ·exact .inl (.inl l)
  ·exact .inl (.inr ⟨j,ZR j x l⟩)
 refine⟨⟨⟨s.base.n,fun j hj=>?_⟩,s.bB,?_,?_,fun j k x l1 l2=>s.inj j k x (ZR j x l1) (ZR k x l2),s.Gs,?_,s.XU,?_,?_⟩,fr⟩
 ·rw [kY (by omega)];exact s.base.same j hj
 ·intro j o' e eg
  by_cases e2:j=i
  ·subst e2
   rw [aC]at e;injection e with e;subst e;exact⟨b,ao,h1,g1,g2,Yx,ho _ _ fr⟩
  ·rw [aB e2]at e
   obtain⟨x,a',a1,a2,a3,a4,a5⟩:=s.ob j o' e eg;have:x≠b:=fun e3=>e2 (s.inj j i b (.inl ⟨o',e,eg,e3▸a1⟩) hb);exact⟨x,a',a1,a2,a3,by rw [kY this];exact a4,a5.mono (.refl c) fr⟩
 ·intro j vs2 t2 n e
  have e2:j≠i:=fun e2=>by subst e2;rw [aC]at e;injection e with e;subst e;cases hg
  rw [aB e2]at e;obtain⟨x,ws2,olds,sz,a1,a2,a3,a4,a5,a6⟩:=s.fW j vs2 t2 n e;have:x≠b:=fun e3=>e2 (s.inj j i b (.inr ⟨vs2,t2,n,n,e,e3▸a1⟩) hb);exact⟨x,ws2,olds,sz,a1,a2,a3,by rw [kY this];exact a4,a5.mono (.refl c) fr,a6⟩
 ·obtain⟨N,hN⟩:=s.room
  refine⟨N,fun j hj=>?_⟩;obtain⟨a1,a2,a3⟩:=hN j hj;have:j≠i:=fun e=>by subst e;rw [h0]at a1;cases a1
  exact⟨by rw [aB this];exact a1,a2,a3⟩
 ·intro j vs2 t2 n m x e e3
  have e2:j≠i:=fun e2=>by subst e2;rw [aC]at e;injection e with e;subst e;cases hg
  rw [aB e2]at e;exact s.Gb j vs2 t2 n m x e e3
 ·intro j vs2 t2 n x ws' e' olds e e3 e4
  have e2:j≠i:=fun e2=>by subst e2;rw [aC]at e;injection e with e;subst e;cases hg
  rw [aB e2]at e;have:x≠b:=fun e5=>e2 (s.inj j i b (.inr ⟨vs2,t2,n,n,e,e5▸e3⟩) hb);rw [kY this]at e4;exact s.old j vs2 t2 n x ws' e' olds e e3 e4
theorem VS.aQ3 (s:VS P B Sb c h S){i b:Nat}{o0 o:Ob} (h0:h i=some o0) (g0:Qr o0=false) (h1:c.Z i=some b) (hg:Qr o=false) (ho:∀a C',S.obj b=some a->ObR c S C' o0 a->ObR c S C' o a):
 VS P B Sb c (aK h i o) S/\dI B c (aK h i o)=dI B c h:=by
 have ZR:∀j x,tP c (aK h i o) j x↔tP c h j x:=by
  intro j x;by_cases e:j=i
  ·subst e
   constructor
   ·intro l
    rcases l with ⟨o',e1,eg,e2⟩ | ⟨vs2,t2,n,m,e1,e2⟩
    ·exact .inl ⟨o0,h0,g0,e2⟩
    ·rw [aC]at e1;injection e1 with e1;subst e1;cases hg
   ·intro l
    rcases l with ⟨o',e1,eg,e2⟩ | ⟨vs2,t2,n,m,e1,e2⟩
    ·exact .inl ⟨o,aC,hg,e2⟩
    ·rw [h0]at e1;injection e1 with e1;subst e1;cases g0
  ·constructor
   ·intro l
    rcases l with ⟨o',e1,eg,e2⟩ | ⟨vs2,t2,n,m,e1,e2⟩
    ·rw [aB e]at e1;exact .inl ⟨o',e1,eg,e2⟩
    ·rw [aB e]at e1;exact .inr ⟨vs2,t2,n,m,e1,e2⟩
   ·intro l
    rcases l with ⟨o',e1,eg,e2⟩ | ⟨vs2,t2,n,m,e1,e2⟩
    ·exact .inl ⟨o',by rw [aB e];exact e1,eg,e2⟩
    ·exact .inr ⟨vs2,t2,n,m,by rw [aB e];exact e1,e2⟩
 have hL:dI B c (aK h i o)=dI B c h:=by
  funext x
  apply propext;constructor
  ·rintro(l | ⟨j,l⟩)
   ·exact .inl l
   ·exact .inr ⟨j,(ZR j x).1 l⟩
  ·rintro(l | ⟨j,l⟩)
   ·exact .inl l
   ·exact .inr ⟨j,(ZR j x).2 l⟩
 refine⟨⟨s.base,s.bB,?_,?_,fun j k x l1 l2=>s.inj j k x ((ZR j x).1 l1) ((ZR k x).1 l2),s.Gs,?_,s.XU,?_,?_⟩,hL⟩
 ·intro j o' e eg
  rw [hL];by_cases e2:j=i
  ·subst e2
   rw [aC]at e;injection e with e;subst e;obtain⟨b',a,a1,a2,a3,a4,a5⟩:=s.ob j o0 h0 g0;rw [h1]at a1;injection a1 with a1;subst a1;exact⟨b,a,h1,a2,a3,a4,ho _ _ a4 a5⟩
  ·rw [aB e2]at e
   exact s.ob j o' e eg
 ·intro j vs2 t2 n e
  have e2:j≠i:=fun e2=>by subst e2;rw [aC]at e;injection e with e;subst e;cases hg
  rw [aB e2]at e;rw [hL];exact s.fW j vs2 t2 n e
 ·obtain⟨N,hN⟩:=s.room
  refine⟨N,fun j hj=>?_⟩;obtain⟨a1,a2,a3⟩:=hN j hj;have:j≠i:=fun e=>by subst e;rw [h0]at a1;cases a1
  exact⟨by rw [aB this];exact a1,a2,a3⟩
 ·intro j vs2 t2 n m x e e3
  have e2:j≠i:=fun e2=>by subst e2;rw [aC]at e;injection e with e;subst e;cases hg
  rw [aB e2]at e;exact s.Gb j vs2 t2 n m x e e3
 ·intro j vs2 t2 n x ws' e' olds e e3 e4
  have e2:j≠i:=fun e2=>by subst e2;rw [aC]at e;injection e with e;subst e;cases hg
  rw [aB e2]at e;exact s.old j vs2 t2 n x ws' e' olds e e3 e4
theorem VS.setRow (s:VS P B Sb c h S){i b:Nat}{vs vs':List V}{t:TypeId} (h0:h i=some (.row vs t)) (h1:c.Z i=some b){ws':List Value} (hv:lN c S (dI B c h) vs' ws'):
 VS P B Sb c (aK h i (.row vs' t)) (S.set b (.cells ws' t .exact))/\EX (dI B c h) S (S.set b (.cells ws' t .exact)) (dI B c (aK h i (.row vs' t))):=
 s.Wk h0 rfl h1 (o:= .row vs' t) rfl fun _ _ f=>⟨ws',rfl,hv.mono (.refl c) f⟩
theorem VS.drop (s:VS P B Sb c h S) (l:bO h' h):VS P B Sb c h' S/\EX (dI B c h) S S (dI B c h'):=by
 have ZR:∀j x,tP c h' j x->tP c h j x:=by
  intro j x k;rcases k with ⟨o,e1,eg,e2⟩ | ⟨vs2,t2,n,m,e1,e2⟩
  ·exact .inl ⟨o,l _ _ e1,eg,e2⟩
  ·exact .inr ⟨vs2,t2,n,m,l _ _ e1,e2⟩
 have fr:EX (dI B c h) S S (dI B c h'):=by
  refine⟨bR _,fun _ _ _=>rfl,fun x k=>?_⟩;rcases k with k | ⟨j,k⟩
  ·exact .inl (.inl k)
  ·exact .inl (.inr ⟨j,ZR j x k⟩)
 refine⟨⟨s.base,s.bB,fun i o e eg=>?_,fun i vs t n e=>?_,fun j k x l1 l2=>s.inj j k x (ZR j x l1) (ZR k x l2),s.Gs,?_,s.XU,fun i vs t n m b e e3=>s.Gb i vs t n m b (l _ _ e) e3,fun i vs t n b ws e' olds e e3 e4=>s.old i vs t n b ws e' olds (l _ _ e) e3 e4⟩,fr⟩
 ·obtain⟨b,ws,a1,a2,a3,a4,a5⟩:=s.ob i o (l _ _ e) eg
  exact⟨b,ws,a1,a2,a3,a4,a5.mono (.refl c) fr⟩
 ·obtain⟨b,ws,olds,sz,a1,a2,a3,a4,a5,a6⟩:=s.fW i vs t n (l _ _ e)
  exact⟨b,ws,olds,sz,a1,a2,a3,a4,a5.mono (.refl c) fr,a6⟩
 ·obtain⟨N,hN⟩:=s.room
  refine⟨N,fun j hj=>?_⟩;obtain⟨a1,a2,a3⟩:=hN j hj;refine⟨?_,a2,a3⟩;cases e:h' j with
  | none=>rfl
  | some o=>rw [l _ _ e]at a1;cases a1
theorem VS.Cm (s:VS P B Sb c h S) (l:bO h' h){v:V}{x:Dt} (k:Fi h' h v x):∀{w:Value},fI c S (dI B c h) v w->ZQ S (dI B c h') x w:=by
 have fr:=(s.drop l).2
 have dead:∀{i b:Nat},tP c h i b->h' i=none->¬dI B c h' b:=by
  intro i b l1 hn l2;rcases l2 with l2 | ⟨j,l2⟩
  ·have:=s.bB b l2;have:=(s.bd l1).1;omega
  ·have l3:tP c h j b:=by
    rcases l2 with ⟨o,e1,eg,e2⟩ | ⟨vs2,t2,n,m,e1,e2⟩
    ·exact .inl ⟨o,l _ _ e1,eg,e2⟩
    ·exact .inr ⟨vs2,t2,n,m,l _ _ e1,e2⟩
   have e:=s.inj i j b l1 l3;subst e;rcases l2 with ⟨o,e1,eg,e2⟩ | ⟨vs2,t2,n,m,e1,e2⟩<;>(rw [hn]at e1;cases e1)
 induction k with
 | int=>intro w q;cases q;exact .int
 | bool=>intro w q;cases q;exact .bool
 | str=>intro w q;cases q;exact .str
 | list=>intro w q;cases q with | list ht hd=>exact hd.mono fr
 | nil=>intro w q;cases q;exact .nil
 | @acc i n vs t cs e hn hl hr ih=>
  intro w q;cases q with
  | acc q=>
   obtain⟨b,ws,olds,sz,a1,a2,a3,a4,a5,a6⟩:=s.fW i vs t n e;rw [a1]at q;injection q with q;subst q;refine .row rfl a3 (dead (.inr ⟨vs,t,n,n,e,a1⟩) hn) a4 (by have:=a5.len;omega) (bR _) fun j x v b1 b2=>?_;rw [eG]at b2;have hj:j<vs.length:=by have:=(List.getElem?_eq_some_iff.1 b1).1;omega
   exact ih j vs[j] x (aQ hj) b1 (a5.rd j _ v (aQ hj) b2)
 | @ID i n o k cc vs t cs e hn hc hl hr ih=>
  intro w q;cases q with
  | ID q=>
   obtain⟨b,ws,olds,sz,a1,a2,a3,a4,a5,a6⟩:=s.fW i vs t n e;rw [a1]at q;injection q with q;injection q with q;injection q with q;injection q with q;subst q;refine .row rfl a3 (dead (.inr ⟨vs,t,n,n,e,a1⟩) hn) a4 (by have:=a5.len;omega) hc fun j x v b1 b2=>?_;have hj:o+j<vs.length:=by have:=(List.getElem?_eq_some_iff.1 b1).1;omega
   exact ih j vs[o+j] x (aQ hj) b1 (a5.rd (o+j) _ v (aQ hj) b2)
 | @own i o n cc vs t cs e hn hc hl hr ih=>
  intro w q;cases q with
  | own q=>
   obtain⟨b,ws,a1,a2,a3,a4,a5⟩:=s.row i vs t e;rw [a1]at q;injection q with q;subst q;refine .row rfl a3 (dead (.inl ⟨_,e,rfl,a1⟩) hn) a4 (by have:=a5.len;omega) hc fun j x v b1 b2=>?_;have hj:o+j<vs.length:=by have:=(List.getElem?_eq_some_iff.1 b1).1;omega
   exact ih j vs[o+j] x (aQ hj) b1 (a5.rd (o+j) _ v (aQ hj) b2)
theorem VS.names (s:VS P B Sb c h S) (ws:List Value):∃(d:Cx) (O:Nat->Tag),c.le d/\VS P B Sb d h S/\dI B d h=dI B c h/\∀(k:Nat) (w:Value),ws[k]? =some w->TB d S (dI B d h) (O k) w:=by
 obtain⟨M,hM⟩:=s.XU
 let d:Cx:=⟨c.Z,c.G,fun k=>if k<M then c.Yz k else ws[k-M]?,c.n0⟩
 have le:c.le d:=by
  refine⟨fun _ _ e=>e,fun _ _ _ e=>e,fun k v e=>?_,rfl⟩;show(if k<M then c.Yz k else ws[k-M]?)=some v;by_cases hk:k<M
  ·rw [aJ hk];exact e
  ·rw [hM k (by omega)]at e;cases e
 have fr:EX (dI B c h) S S (dI B d h):=⟨bR _,fun _ _ _=>rfl,fun _ k=> .inl k⟩;refine⟨d,fun k=> .root (M+k),le,⟨s.base,s.bB,fun i o e eg=>?_,fun i vs t n e=>?_,s.inj,s.Gs,s.room,⟨M+ws.length,fun k hk=>?_⟩,s.Gb,s.old⟩,rfl,fun k w e=> .root ?_⟩
 ·obtain⟨b,ws,a1,a2,a3,a4,a5⟩:=s.ob i o e eg
  exact⟨b,ws,a1,a2,a3,a4,a5.mono le fr⟩
 ·obtain⟨b,ws,olds,sz,a1,a2,a3,a4,a5,a6⟩:=s.fW i vs t n e
  exact⟨b,ws,olds,sz,a1,a2,a3,a4,a5.mono le fr,a6⟩
 ·show(if k<M then c.Yz k else ws[k-M]?)=none
  rw [aG (by omega),FK (by omega)]
 ·show(if M+k<M then c.Yz (M+k)else ws[M+k-M]?)=some w
  rw [aG (by omega),Nat.add_sub_cancel_left];exact e
theorem VS.aJR (s:VS P B Sb c h S){i:Nat} (h0:h i=none) (h1:c.Z i=none) (h2:∀n,c.G i n=none){vs:List V}{ws:List Value}{t:TypeId}{sz n:Nat} (hs:cN P t=some sz) (hn:vs.length=n*sz) (hv:lN c S (dI B c h) vs ws):
 let w:Value:= .slice (some ⟨S.n,0,some 0⟩) n n
 VS P B Sb (c.putG i n w) (aK h i (.fW vs t n)) (S.new (.cells ws t (.grown [])))/\c.le (c.putG i n w)/\EX (dI B c h) S (S.new (.cells ws t (.grown []))) (dI B (c.putG i n w) (aK h i (.fW vs t n)))/\(c.putG i n w).G i n=some w:=by
 intro w;have le:=Cx.putG_le (c:=c) (i:=i) (n:=n) (w:=w) (h2 n)
 have ZR:∀j b,tP (c.putG i n w) (aK h i (.fW vs t n)) j b->(j=i/\b=S.n)\/(j≠i/\tP c h j b):=by
  intro j b l;by_cases e:j=i
  ·subst e
   rcases l with ⟨o',e1,eg,e2⟩ | ⟨vs',t',n',m,e1,e2⟩
   ·rw [aC]at e1;injection e1 with e1;subst e1;cases eg
   ·have e2:(if j=j/\m=n then some w else c.G j m)=_:=e2
    by_cases hm:m=n
    ·rw [aJ ⟨rfl,hm⟩]at e2
     injection e2 with e2;injection e2 with e2;injection e2 with e2;injection e2 with e2;exact .inl ⟨rfl,e2.symm⟩
    ·rw [aG (fun x=>hm x.2),h2]at e2;cases e2
  ·refine .inr ⟨e,?_⟩
   rcases l with ⟨o',e1,eg,e2⟩ | ⟨vs',t',n',m,e1,e2⟩
   ·rw [aB e]at e1
    exact .inl ⟨o',e1,eg,e2⟩
   ·rw [aB e]at e1
    have e2:(if j=i/\m=n then some w else c.G j m)=_:=e2;rw [aG (fun x=>e x.1)]at e2;exact .inr ⟨vs',t',n',m,e1,e2⟩
 have fr:EX (dI B c h) S (S.new (.cells ws t (.grown []))) (dI B (c.putG i n w) (aK h i (.fW vs t n))):=by
  refine⟨RJ _,fun j hj _=>gY (Nat.ne_of_lt hj),fun b l=>?_⟩;rcases l with l | ⟨j,l⟩
  ·exact .inl (.inl l)
  ·rcases ZR j b l with ⟨_,e⟩ | ⟨_,l⟩
   ·exact .inr (Bu e.symm)
   ·exact .inl (.inr ⟨j,l⟩)
 refine⟨⟨s.base.trans (.new S _),s.bB,?_,?_,?_,?_,?_,s.XU,?_,?_⟩,le,fr,aJ ⟨rfl,rfl⟩⟩
 ·intro j o' e eg
  have e2:j≠i:=fun e2=>by subst e2;rw [aC]at e;injection e with e;subst e;cases eg
  rw [aB e2]at e;obtain⟨b,ws',a1,a2,a3,a4,a5⟩:=s.ob j o' e eg;exact⟨b,ws',a1,a2,rZ a3,by rw [gY (by omega)];exact a4,a5.mono le fr⟩
 ·intro j vs' t' m e
  by_cases e2:j=i
  ·subst e2
   rw [aC]at e;injection e with e;injection e with e3 e4 e5;subst e3 e4 e5;refine⟨S.n,ws,[],sz,aJ ⟨rfl,rfl⟩,s.base.n,xF _,uU,hv.mono le fr,hs,hn,fun m hm=>?_⟩;show(if j=j/\m=n then some w else c.G j m)=none;rw [aG (fun x=>by omega)];exact h2 m
  ·rw [aB e2]at e
   obtain⟨b,ws',olds,sz',a1,a2,a3,a4,a5,a6,a7,a8⟩:=s.fW j vs' t' m e;refine⟨b,ws',olds,sz',le.G _ _ _ a1,a2,rZ a3,by rw [gY (by omega)];exact a4,a5.mono le fr,a6,a7,fun q hq=>?_⟩;show(if j=i/\q=n then some w else c.G j q)=none;rw [aG (fun x=>e2 x.1)];exact a8 q hq
 ·intro j k b l1 l2
  rcases ZR j b l1 with ⟨e1,e2⟩ | ⟨e1,l1⟩
  ·rcases ZR k b l2 with ⟨e3,e4⟩ | ⟨e3,l2⟩
   ·rw [e1,e3]
   ·have:=(s.bd l2).2;omega
  ·rcases ZR k b l2 with ⟨e3,e4⟩ | ⟨e3,l2⟩
   ·have:=(s.bd l1).2;omega
   ·exact s.inj j k b l1 l2
 ·intro j m u e
  have e:(if j=i/\m=n then some w else c.G j m)=some u:=e;by_cases e2:j=i/\m=n
  ·rw [aJ e2]at e;injection e with e;exact⟨S.n,by rw [<-e,e2.2]⟩
  ·rw [aG e2]at e;exact s.Gs j m u e
 ·obtain⟨N,hN⟩:=s.room
  refine⟨max N (i+1),fun j hj=>?_⟩;obtain⟨a1,a2,a3⟩:=hN j (by omega);exact⟨by rw [aB (by omega)];exact a1,a2,fun m=>by show(if j=i/\m=n then some w else c.G j m)=none;rw [aG (fun x=>by omega)];exact a3 m⟩
 ·intro j vs' t' n' m b e e3
  have e3:(if j=i/\m=n then some w else c.G j m)=_:=e3;by_cases e2:j=i/\m=n
  ·rw [aJ e2]at e3
   injection e3 with e3;injection e3 with e3;injection e3 with e3;injection e3 with e3;rw [<-e3];exact⟨s.base.n,xF _⟩
  ·rw [aG e2]at e3
   by_cases e4:j=i
   ·have e5:=e4▸h2 m;rw [e5]at e3;cases e3
   ·rw [aB e4]at e
    obtain⟨q1,q2⟩:=s.Gb j vs' t' n' m b e e3;exact⟨q1,rZ q2⟩
 ·intro j vs' t' n' b ws' e' olds e e3 e5 x hx
  have e3:(if j=i/\n'=n then some w else c.G j n')=_:=e3;by_cases e4:j=i
  ·subst e4
   by_cases e6:n'=n
   ·rw [aJ ⟨rfl,e6⟩]at e3
    injection e3 with e3;injection e3 with e3;injection e3 with e3;injection e3 with e3;rw [<-e3,uU]at e5;injection e5 with e5;injection e5 with _ _ e5;injection e5 with e5;rw [<-e5]at hx;cases hx
   ·rw [aG (fun x=>e6 x.2),h2]at e3;cases e3
  ·rw [aG (fun x=>e4 x.1)]at e3
   rw [aB e4]at e;rw [gY (by have:=(s.Gb j vs' t' n' n' b e e3).2;omega)]at e5;obtain⟨m,hm⟩:=s.old j vs' t' n' b ws' e' olds e e3 e5 x hx;exact⟨m,le.G _ _ _ hm⟩
theorem VS.aMr (s:VS P B Sb c h S){i n m b:Nat}{vs nv:List V}{t:TypeId}{sz:Nat}{ws nw:List Value}{olds:List Nat} (h0:h i=some (.fW vs t n)) (hb:c.G i n=some (.slice (some ⟨b,0,some 0⟩) n n)) (ho:S.obj b=some (.cells ws t (.grown olds))) (hs:cN P t=some sz)
 (hn:nv.length=m*sz) (hm:0<m) (LB:vs.length=n*sz) (hvw:lN c S (dI B c h) vs ws) (hv:lN c S (dI B c h) nv nw):
 let w:Value:= .slice (some ⟨S.n,0,some 0⟩) (n+m) (n+m)
 let S':=(S.set b (.cells ws t .uB)).new (.cells (ws++nw) t (.grown (b::olds)))
 VS P B Sb (c.putG i (n+m) w) (aK h i (.fW (vs++nv) t (n+m))) S'/\c.le (c.putG i (n+m) w)/\EX (dI B c h) S S' (dI B (c.putG i (n+m) w) (aK h i (.fW (vs++nv) t (n+m))))/\(c.putG i (n+m) w).G i (n+m)=some w:=by
 intro w S';obtain⟨b',_,_,_,q1,_,_,_,_,_,_,q8⟩:=s.fW i vs t n h0;have hlb:tP c h i b:= .inr ⟨vs,t,n,n,h0,hb⟩;obtain⟨g1,g2⟩:=s.bd hlb;have le:=Cx.putG_le (c:=c) (i:=i) (n:=n+m) (w:=w) (q8 _ (by omega));have hSn:(S.set b (.cells ws t .uB)).n=S.n:=rfl
 have ZR:∀j x,tP (c.putG i (n+m) w) (aK h i (.fW (vs++nv) t (n+m))) j x->(j=i/\x=S.n)\/tP c h j x:=by
  intro j x l;by_cases e:j=i
  ·subst e
   rcases l with ⟨o',e1,eg,e2⟩ | ⟨vs',t',n',k,e1,e2⟩
   ·rw [aC]at e1;injection e1 with e1;subst e1;cases eg
   ·have e2:(if j=j/\k=n+m then some w else c.G j k)=_:=e2
    by_cases hk:k=n+m
    ·rw [aJ ⟨rfl,hk⟩]at e2
     injection e2 with e2;injection e2 with e2;injection e2 with e2;injection e2 with e2;exact .inl ⟨rfl,e2.symm⟩
    ·rw [aG (fun x=>hk x.2)]at e2
     exact .inr (.inr ⟨vs,t,n,k,h0,e2⟩)
  ·refine .inr ?_
   rcases l with ⟨o',e1,eg,e2⟩ | ⟨vs',t',n',k,e1,e2⟩
   ·rw [aB e]at e1
    exact .inl ⟨o',e1,eg,e2⟩
   ·rw [aB e]at e1
    have e2:(if j=i/\k=n+m then some w else c.G j k)=_:=e2;rw [aG (fun x=>e x.1)]at e2;exact .inr ⟨vs',t',n',k,e1,e2⟩
 have fr:EX (dI B c h) S S' (dI B (c.putG i (n+m) w) (aK h i (.fW (vs++nv) t (n+m)))):=by
  refine⟨RJ _,fun j hj hc=>?_,fun x l=>?_⟩
  ·show((S.set b _).new _).obj j=_
   rw [gY (by rw [hSn];omega),kY (show j≠b from fun e=>hc (.inr ⟨i,e▸hlb⟩))]
  ·rcases l with l | ⟨j,l⟩
   ·exact .inl (.inl l)
   ·rcases ZR j x l with ⟨_,e⟩ | l
    ·exact .inr (Bu e.symm)
    ·exact .inl (.inr ⟨j,l⟩)
 have oth:∀j x,j≠i->tP c h j x->S'.obj x=S.obj x:=fun j x e l=>by
  have:x≠b:=fun e3=>e (s.inj j i b (e3▸l) hlb);show((S.set b _).new _).obj x=_;rw [gY (by rw [hSn];have:=(s.bd l).2;omega),kY this]
 refine⟨⟨⟨Nat.le_succ_of_le s.base.n,fun j hj=>?_⟩,s.bB,?_,?_,?_,?_,?_,s.XU,?_,?_⟩,le,fr,aJ ⟨rfl,rfl⟩⟩
 ·have:=s.base.n
  show((S.set b _).new _).obj j=_;rw [gY (by rw [hSn];omega),kY (by omega)];exact s.base.same j hj
 ·intro j o' e eg
  have e2:j≠i:=fun e2=>by subst e2;rw [aC]at e;injection e with e;subst e;cases eg
  rw [aB e2]at e;obtain⟨x,ws',a1,a2,a3,a4,a5⟩:=s.ob j o' e eg;exact⟨x,ws',a1,a2,rZ a3,by rw [oth j x e2 (.inl ⟨o',e,eg,a1⟩)];exact a4,a5.mono le fr⟩
 ·intro j vs' t' k e
  by_cases e2:j=i
  ·subst e2
   rw [aC]at e;injection e with e;injection e with e3 e4 e5;subst e3 e4 e5;refine⟨S.n,ws++nw,b::olds,sz,aJ ⟨rfl,rfl⟩,s.base.n,xF _,?_,(hvw.app hv).mono le fr,hs,by rw [jU,LB,hn,KP],fun q hq=>?_⟩
   ·show((S.set b _).new _).obj (S.set b (.cells ws t .uB)).n=_
    exact uU
   ·show(if j=j/\q=n+m then some w else c.G j q)=none
    rw [aG (fun x=>by omega)];exact q8 q (by omega)
  ·rw [aB e2]at e
   obtain⟨x,ws',Kr,sz',a1,a2,a3,a4,a5,a6,a7,a8⟩:=s.fW j vs' t' k e;refine⟨x,ws',Kr,sz',le.G _ _ _ a1,a2,rZ a3,by rw [oth j x e2 (.inr ⟨vs',t',k,k,e,a1⟩)];exact a4,a5.mono le fr,a6,a7,fun q hq=>?_⟩;show(if j=i/\q=n+m then some w else c.G j q)=none;rw [aG (fun x=>e2 x.1)];exact a8 q hq
 ·intro j k x l1 l2
  rcases ZR j x l1 with ⟨e1,e2⟩ | l1
  ·rcases ZR k x l2 with ⟨e3,e4⟩ | l2
   ·rw [e1,e3]
   ·have:=(s.bd l2).2;omega
  ·rcases ZR k x l2 with ⟨e3,e4⟩ | l2
   ·have:=(s.bd l1).2;omega
   ·exact s.inj j k x l1 l2
 ·intro j k u e
  have e:(if j=i/\k=n+m then some w else c.G j k)=some u:=e;by_cases e2:j=i/\k=n+m
  ·rw [aJ e2]at e;injection e with e;exact⟨S.n,by rw [<-e,e2.2]⟩
  ·rw [aG e2]at e;exact s.Gs j k u e
 ·obtain⟨N,hN⟩:=s.room
  refine⟨max N (i+1),fun j hj=>?_⟩;obtain⟨a1,a2,a3⟩:=hN j (by omega);exact⟨by rw [aB (by omega)];exact a1,a2,fun q=>by show(if j=i/\q=n+m then some w else c.G j q)=none;rw [aG (fun x=>by omega)];exact a3 q⟩
 ·intro j vs' t' n' k x e e3
  rcases ZR j x (.inr ⟨vs',t',n',k,e,e3⟩)with ⟨_,e4⟩ | l
  ·rw [e4];exact⟨s.base.n,xF _⟩
  ·obtain⟨q1,q2⟩:=s.bd l
   exact⟨q1,rZ q2⟩
 ·intro j vs' t' n' x ws' e' Kr e e3 e5 y hy
  have e3:(if j=i/\n'=n+m then some w else c.G j n')=_:=e3;by_cases e4:j=i
  ·subst e4
   rw [aC]at e;injection e with e;injection e with _ _ e6;rw [aJ ⟨rfl,e6.symm⟩]at e3;injection e3 with e3;injection e3 with e3;injection e3 with e3;injection e3 with e3
   have e7:S'.obj S.n=some (.cells (ws++nw) t (.grown (b::olds))):=by
    show((S.set b _).new _).obj (S.set b (.cells ws t .uB)).n=_;exact uU
   rw [<-e3,e7]at e5;injection e5 with e5;injection e5 with _ _ e5;injection e5 with e5;rw [<-e5]at hy;rcases List.mem_cons.1 hy with rfl | hy
   ·exact⟨n,le.G _ _ _ hb⟩
   ·obtain⟨q,hq⟩:=s.old j vs t n b ws t olds h0 hb ho y hy
    exact⟨q,le.G _ _ _ hq⟩
  ·rw [aG (fun x=>e4 x.1)]at e3
   rw [aB e4]at e;rw [oth j x e4 (.inr ⟨vs',t',n',n',e,e3⟩)]at e5;obtain⟨q,hq⟩:=s.old j vs' t' n' x ws' e' Kr e e3 e5 y hy;exact⟨q,le.G _ _ _ hq⟩
theorem VS.aJS (s:VS P B Sb c h S){i n b:Nat}{vs vs':List V}{t:TypeId}{ws ws':List Value}{olds ol kl:List Nat} (hol:∀x∈ol,x∈olds) (hkl:∀x∈kl,x∈olds) (h0:h i=some (.fW vs t n)) (hb:c.G i n=some (.slice (some ⟨b,0,some 0⟩) n n)) (ho:S.obj b=some (.cells ws t (.grown olds))) (hl:vs'.length=vs.length) (hv:lN c S (dI B c h) vs' ws'){S':St}
 (hn:S'.n=S.n) (hs:∀j,S'.obj j=if j=b then some (.cells ws' t (.grown ol))else if j∈kl then some .dead else S.obj j):
 VS P B Sb c (aK h i (.fW vs' t n)) S'/\EX (dI B c h) S S' (dI B c (aK h i (.fW vs' t n))):=by
 have hlb:tP c h i b:= .inr ⟨vs,t,n,n,h0,hb⟩
 have hold:∀x∈olds,tP c h i x:=fun x hx=>by
  obtain⟨m,hm⟩:=s.old i vs t n b ws t olds h0 hb ho x hx;exact .inr ⟨vs,t,n,m,h0,hm⟩
 have ZR:∀j x,tP c (aK h i (.fW vs' t n)) j x->tP c h j x:=by
  intro j x l;by_cases e:j=i
  ·subst e
   rcases l with ⟨o',e1,eg,e2⟩ | ⟨vs2,t2,n',m,e1,e2⟩
   ·rw [aC]at e1;injection e1 with e1;subst e1;cases eg
   ·exact .inr ⟨vs,t,n,m,h0,e2⟩
  ·rcases l with ⟨o',e1,eg,e2⟩ | ⟨vs2,t2,n',m,e1,e2⟩
   ·rw [aB e]at e1;exact .inl ⟨o',e1,eg,e2⟩
   ·rw [aB e]at e1;exact .inr ⟨vs2,t2,n',m,e1,e2⟩
 have same:∀x,¬tP c h i x->S'.obj x=S.obj x:=fun x hx=>by
  rw [hs,aG (fun e:x=b=>hx (e▸hlb)),aG (fun e=>hx (hold x (hkl x e)))]
 have oth:∀j x,j≠i->tP c h j x->S'.obj x=S.obj x:=fun j x e l=>same x fun l2=>e (s.inj j i x l l2)
 have fr:EX (dI B c h) S S' (dI B c (aK h i (.fW vs' t n))):=by
  refine⟨Bu hn.symm,fun j _ hc=>same j fun l=>hc (.inr ⟨i,l⟩),fun x l=>?_⟩;rcases l with l | ⟨j,l⟩
  ·exact .inl (.inl l)
  ·exact .inl (.inr ⟨j,ZR j x l⟩)
 refine⟨⟨⟨by rw [hn];exact s.base.n,fun j hj=>?_⟩,s.bB,?_,?_,fun j k x l1 l2=>s.inj j k x (ZR j x l1) (ZR k x l2),s.Gs,?_,s.XU,?_,?_⟩,fr⟩
 ·rw [same j fun l=>by have:=(s.bd l).1;omega];exact s.base.same j hj
 ·intro j o' e eg
  have e2:j≠i:=fun e2=>by subst e2;rw [aC]at e;injection e with e;subst e;cases eg
  rw [aB e2]at e;obtain⟨x,a',a1,a2,a3,a4,a5⟩:=s.ob j o' e eg;exact⟨x,a',a1,a2,by rw [hn];exact a3,by rw [oth j x e2 (.inl ⟨o',e,eg,a1⟩)];exact a4,a5.mono (.refl c) fr⟩
 ·intro j vs2 t2 k e
  by_cases e2:j=i
  ·subst e2
   rw [aC]at e;injection e with e;injection e with e3 e4 e5;subst e3 e4 e5;obtain⟨x,ws2,Kr,sz',a1,a2,a3,a4,a5,a6,a7,a8⟩:=s.fW j vs t n h0;rw [hb]at a1;injection a1 with a1;injection a1 with a1;injection a1 with a1;injection a1 with a1;subst a1;exact⟨b,ws',ol,sz',hb,a2,by rw [hn];exact a3,by rw [hs,aJ rfl],hv.mono (.refl c) fr,a6,by rw [hl];exact a7,a8⟩
  ·rw [aB e2]at e
   obtain⟨x,ws2,Kr,sz',a1,a2,a3,a4,a5,a6⟩:=s.fW j vs2 t2 k e;exact⟨x,ws2,Kr,sz',a1,a2,by rw [hn];exact a3,by rw [oth j x e2 (.inr ⟨vs2,t2,k,k,e,a1⟩)];exact a4,a5.mono (.refl c) fr,a6⟩
 ·obtain⟨N,hN⟩:=s.room
  refine⟨N,fun j hj=>?_⟩;obtain⟨a1,a2,a3⟩:=hN j hj;have:j≠i:=fun e=>by subst e;rw [h0]at a1;cases a1
  exact⟨by rw [aB this];exact a1,a2,a3⟩
 ·intro j vs2 t2 k m x e e3
  rw [hn];exact s.bd (ZR j x (.inr ⟨vs2,t2,k,m,e,e3⟩))
 ·intro j vs2 t2 k x ws2 e' Kr e e3 e5 y hy
  by_cases e2:j=i
  ·subst e2
   rw [aC]at e;injection e with e;injection e with _ _ e6;subst e6;rw [hb]at e3;injection e3 with e3;injection e3 with e3;injection e3 with e3;injection e3 with e3;subst e3;rw [hs,aJ rfl]at e5;injection e5 with e5;injection e5 with _ _ e5;injection e5 with e5;rw [<-e5]at hy;exact s.old j vs t n b ws t olds h0 hb ho y (hol y hy)
  ·rw [aB e2]at e
   rw [oth j x e2 (.inr ⟨vs2,t2,k,k,e,e3⟩)]at e5;exact s.old j vs2 t2 k x ws2 e' Kr e e3 e5 y hy
end
section
variable{α:Type}
theorem aB8 (t:Tr α):∀(n:Nat) (k:α->Prop),aGU t n k->∃x,t.get n=some x/\k x:=by
 induction t with
 | leaf=>intro n k h;cases h
 | node v l r ihl ihr=>
  intro n k h;cases n with
  | zero=>
   cases v with
   | none=>cases h
   | some x=>exact⟨x,rfl,h⟩
  | succ p=>
   have h:pL (Nat.mod p 2) (aGU l (Nat.div p 2) k) (fun _=>aGU r (Nat.div p 2) k):=h;have hm:p%2=0\/p%2=1:=by omega
   rcases hm with hm | hm
   ·have:Nat.mod p 2=0:=hm
    rw [this]at h;obtain⟨x,e1,e2⟩:=ihl _ _ (show aGU l (Nat.div p 2) k from h);refine⟨x,?_,e2⟩;have e3:(p+1) / 2=Nat.div p 2:=by show _=p / 2;omega
    simp only [Tr.get,OR,OT,and_false,if_false,show(p+1)%2=1 by omega,if_true,e3];exact e1
   ·have:Nat.mod p 2=0+1:=hm
    rw [this]at h;obtain⟨x,e1,e2⟩:=ihr _ _ (show aGU r (Nat.div p 2) k from h);refine⟨x,?_,e2⟩;have e3:(p+1) / 2-1=Nat.div p 2:=by show _=p / 2;omega
    simp only [Tr.get,OR,OT,and_false,if_false,show ¬(p+1)%2=1 by omega,e3];exact e1
theorem aJT (t:Tr α){k:Prop}:∀(n:Nat),aGW t n k->t.get n=none/\k:=by
 induction t with
 | leaf=>intro n h;exact⟨rfl,h⟩
 | node v l r ihl ihr=>
  intro n h;cases n with
  | zero=>
   cases v with
   | none=>exact⟨rfl,h⟩
   | some x=>cases h
  | succ p=>
   have h:pL (Nat.mod p 2) (aGW l (Nat.div p 2) k) (fun _=>aGW r (Nat.div p 2) k):=h;have hm:p%2=0\/p%2=1:=by omega
   rcases hm with hm | hm
   ·have:Nat.mod p 2=0:=hm
    rw [this]at h;obtain⟨e1,e2⟩:=ihl _ (show aGW l (Nat.div p 2) k from h);refine⟨?_,e2⟩;have e3:(p+1) / 2=Nat.div p 2:=by show _=p / 2;omega
    simp only [Tr.get,OR,OT,and_false,if_false,show(p+1)%2=1 by omega,if_true,e3];exact e1
   ·have:Nat.mod p 2=0+1:=hm
    rw [this]at h;obtain⟨e1,e2⟩:=ihr _ (show aGW r (Nat.div p 2) k from h);refine⟨?_,e2⟩;have e3:(p+1) / 2-1=Nat.div p 2:=by show _=p / 2;omega
    simp only [Tr.get,OR,OT,and_false,if_false,show ¬(p+1)%2=1 by omega,e3];exact e1
theorem aMs (t:Tr α):∀(n:Nat) (k:Tr α->Prop),aJJ t n k=k (t.del n):=by
 induction t with
 | leaf=>intro n k;rfl
 | node v l r il ir=>
  intro n k;cases n with
  | zero=>rfl
  | succ p=>
   show pL (p%2) (aJJ l (p / 2) fun c=>k (.node v c r)) (fun _=>aJJ r (p / 2) fun c=>k (.node v l c))=_;rw [il,ir];have aHV:p+1≠0:=by omega
   simp only [Tr.del,aG aHV];rcases Nat.mod_two_eq_zero_or_one p with h | h
   ·rw [h,aJ (by omega),show(p+1) / 2=p / 2 by omega];rfl
   ·rw [h,aG (by omega),show(p+1) / 2-1=p / 2 by omega];rfl
theorem aMt (x:α):∀(f:Nat) (t:Tr α) (n:Nat) (k:Tr α->Prop),aGV x f t n k=k (Tr.JS x f t n):=by
 intro f;induction f with
 | zero=>intro t n k;rfl
 | succ f ih=>
  intro t n k;cases t with
  | leaf=>
   cases n with
   | zero=>rfl
   | succ p=>
    show pL (Nat.mod p 2) (aGV x f .leaf (Nat.div p 2) fun c=>k (.node none c .leaf)) (fun _=>aGV x f .leaf (Nat.div p 2) fun c=>k (.node none .leaf c))=_;rw [ih,ih];have hm:p%2=0\/p%2=1:=by omega
    rcases hm with hm | hm
    ·have:Nat.mod p 2=0:=hm
     rw [this];have e3:(p+1) / 2=Nat.div p 2:=by show _=p / 2;omega
     simp only [Tr.JS,OR,OT,and_false,if_false,show(p+1)%2=1 by omega,if_true,e3];rfl
    ·have:Nat.mod p 2=0+1:=hm
     rw [this];have e3:(p+1) / 2-1=Nat.div p 2:=by show _=p / 2;omega
     simp only [Tr.JS,OR,OT,and_false,if_false,show ¬(p+1)%2=1 by omega,e3];rfl
  | node v l r=>
   cases n with
   | zero=>rfl
   | succ p=>
    show pL (Nat.mod p 2) (aGV x f l (Nat.div p 2) fun c=>k (.node v c r)) (fun _=>aGV x f r (Nat.div p 2) fun c=>k (.node v l c))=_;rw [ih,ih];have hm:p%2=0\/p%2=1:=by omega
    rcases hm with hm | hm
    ·have:Nat.mod p 2=0:=hm
     rw [this];have e3:(p+1) / 2=Nat.div p 2:=by show _=p / 2;omega
     simp only [Tr.JS,OR,OT,and_false,if_false,show(p+1)%2=1 by omega,if_true,e3];rfl
    ·have:Nat.mod p 2=0+1:=hm
     rw [this];have e3:(p+1) / 2-1=Nat.div p 2:=by show _=p / 2;omega
     simp only [Tr.JS,OR,OT,and_false,if_false,show ¬(p+1)%2=1 by omega,e3];rfl
theorem QR{l:List α}{i:Nat}{k:α->Prop} (h:Gi l i k):∃a,l[i]? =some a/\k a:=by
 unfold Gi at h;split at h
 ·rename_i a e;exact⟨a,e,h⟩
 ·cases h
end
structure Lr (c:Cx) (S:St) (C:Nat->Prop) (l:List Nat):Prop where
 n0:c.n0<=S.n
 nd:l.Nodup
 ok:∀d∈l,c.n0<=d/\d<S.n/\¬C d/\S.obj d=some .defers
theorem Lr.mono{c d:Cx}{S S':St}{C C':Nat->Prop}{m:List Nat} (k:Lr c S C m) (l:c.le d) (f:EX C S S' C'):Lr d S' C' m:=by
 refine⟨by rw [l.n0];exact zA k.n0 f.n,k.nd,fun x hx=>?_⟩;obtain⟨h1,h2,h3,h4⟩:=k.ok x hx;refine⟨by rw [l.n0];exact h1,CX h2 f.n,fun h=>?_,by rw [f.same x h2 h3];exact h4⟩;rcases f.sub _ h with h | h
 ·exact h3 h
 ·omega
structure AR (c:Cx) (S:St) (C:Nat->Prop) (A:VA) (A':bC):Prop where
 n:A.tmps.n=A'.tmps.n
 g:A.g=A'.g
 marks:Lr c S C A'.marks
 got:∀i v,A.tmps.t.get i=some v->∃w,A'.tmps.t.get i=some w/\fI c S C v w
 abs:∀i,A.tmps.t.get i=none->A'.tmps.t.get i=none
section
variable{P:Program}{B:Nat->Prop}{Sb:St}{c c' d:Cx}{h h':Hp}{S S':St}{C C':Nat->Prop}
theorem AR.mono{A:VA}{A':bC} (a:AR c S C A A') (l:c.le d) (f:EX C S S' C'):AR d S' C' A A':=
 ⟨a.n,a.g,a.marks.mono l f,fun i v e=>let⟨w,p,q⟩:=a.got i v e;⟨w,p,q.mono l f⟩,a.abs⟩
theorem AR.put{A:VA}{A':bC} (a:AR c S C A A'){i:Nat}{v:V}{w:Value} (hv:fI c S C v w):AR c S C ⟨⟨A.tmps.t.put i v,A.tmps.n⟩,A.g⟩ ⟨A'.tmps.put i w,A'.marks,A'.g⟩:=by
 refine⟨a.n,a.g,a.marks,fun j x e=>?_,fun j e=>?_⟩
 ·have e:(A.tmps.t.put i v).get j=some x:=e
  rw [AP]at e;show ∃w',(A'.tmps.t.put i w).get j=some w'/\_;rw [AP];by_cases hj:j=i
  ·rw [aJ hj]at e ⊢;injection e with e;subst e;exact⟨w,rfl,hv⟩
  ·rw [aG hj]at e ⊢;exact a.got j x e
 ·have e:(A.tmps.t.put i v).get j=none:=e
  rw [AP]at e;show(A'.tmps.t.put i w).get j=none;rw [AP];by_cases hj:j=i
  ·rw [aJ hj]at e;cases e
  ·rw [aG hj]at e ⊢;exact a.abs j e
theorem EJ{A:VA}{A':bC} (a:AR c S C A A'){i:Nat}{k:V->Prop}{k':Value->Bool} (h:Ui A.tmps i k) (hk:∀v w,fI c S C v w->k v->k' w=true):YJ A'.tmps i k'=true:=by
 obtain⟨v,e,hv⟩:=aB8 _ _ _ h;obtain⟨w,e2,r⟩:=a.got i v e;unfold YJ;rw [mZ,e2];exact hk v w r hv
theorem YY{v:V}{T:VTm}{i:Nat}{k:VTm->Prop} (h:Av v T i k):i<T.n/\k ⟨T.t.put i v,T.n⟩:=by
 obtain⟨t,n⟩:=T;unfold Av at h;simp only at h;split at h
 ·rename_i hb
  rw [aMt]at h;exact⟨cG hb,h⟩
 ·cases h
theorem Gm{v:Value}{T:Tm}{i:Nat} (hi:i<T.n) (k:Tm->Bool):uC v T i k=k (T.put i v):=by
 unfold uC;rw [show Nat.blt i T.n=true from nJ hi,RZ];rfl
theorem Wl{A:VA}{A':bC} (a:AR c S C A A'){d:Tmp}{v:V}{w:Value} (hv:fI c S C v w){k:VA->Prop}{k':bC->Bool} (h:Ra A d v k) (hk:∀B B',AR c S C B B'->k B->k' B'=true):mJ A' (some d) w k'=true:=by
 obtain⟨T,g⟩:=A;obtain⟨h1,h2⟩:=YY (show Av v T d (fun T=>k ⟨T,g⟩)from h);show uC w A'.tmps d (fun ts=>k' ⟨ts,A'.marks,A'.g⟩)=true;rw [Gm (by rw [<-a.n];exact h1)];exact hk _ _ (a.put hv) h2
theorem aJU{v:Value}{x:V} (e:ofC v=some x):kM v=true/\fI c S C x v:=by
 unfold ofC at e;split at e
 ·rename_i cs
  split at e
  ·rename_i l hl
   injection e with e;subst e;have LB:lN c S C l cs:=YX hl;refine⟨?_,.agg LB.len LB.rd⟩;show cs.all bW=true
   have:∀(cs:List Value) (l:List V),LO cs=some l->cs.all bW=true:=by
    intro cs;induction cs with
    | nil=>intro _ _;rfl
    | cons a cs ih=>
     intro l h;unfold LO at h;split at h
     ·rename_i x hx
      split at h
      ·rename_i xs hxs
       simp only [VM,aB7 hx,ih xs hxs,Bool.and_self]
      ·cases h
     ·cases h
   exact this cs l hl
  ·cases e
 ·have hf:=aB7 e
  refine⟨?_,aJQ e⟩;cases v<;>first | exact hf | (simp [bW]at hf)
theorem cC{A:VA}{A':bC} (a:AR c S C A A'){x:Operand}{k:V->Prop}{k':Value->Bool} (h:(AK x).f A k) (hk:∀v w,fI c S C v w->k v->k' w=true):vM A' x k'=true:=by
 cases x with
 | tmp t=>exact EJ a h hk
 | const v=>
  unfold AK at h;cases e:ofC v with
  | none=>simp only [e]at h
  | some d=>
   simp only [e]at h;obtain⟨hf,r⟩:=aJU (c:=c) (S:=S) (C:=C) e;unfold vM;simp only [hf];exact hk d v r h
 | global g=>cases h
 | func f=>exact hk _ _ (.func (a':=[]) (d':=[]) rfl rfl (fun k v w e=>by simp at e) (fun k v w e=>by simp at e)) h
theorem Gn{A:VA}{A':bC} (a:AR c S C A A'):∀{xs:List Operand} {k:List V->Prop} {k':List Value->Bool},(aGX xs).f A k->(∀vs ws,lN c S C vs ws->k vs->k' ws=true)->VP A' xs k'=true:=by
 intro xs;induction xs with
 | nil=>intro k k' h hk;exact hk [] [] .nil h
 | cons x xs ih=>
  intro k k' h hk;have h:(AK x).f A (fun v=>(aGX xs).f A fun vs=>k (v::vs)):=h;refine cC a h fun v w r h=>?_;exact ih h fun vs ws rs h=>hk (v::vs) (w::ws) (.cons r rs) h
theorem VS.one (s:VS P B Sb c h S){v:V}{w:Value} (r:fI c S C v w) (ho:fR v=true):kR w=true:=by
 cases r<;>first
  | rfl
  | (simp [fR]at ho;done)
  | (rename_i e;obtain⟨b,rfl⟩:=s.Gs _ _ _ e;rfl)
  | (rename_i ht hd;cases hd<;>rfl)
theorem VS.aG0 (s:VS P B Sb c h S){vs:List V}{ws:List Value} (r:lN c S C vs ws) (ho:vs.all fR=true):ws.all kR=true:=by
 rw [KO]at ho ⊢;intro w hw;obtain⟨k,hk⟩:=Bh hw;have hl:=r.len;have hkl:=(List.getElem?_eq_some_iff.1 hk).1;exact s.one (r.rd k vs[k] w (aQ (by omega)) hk) (ho _ (cK (by omega)))
theorem aJV (O:Tag):∀(l:List Dt) (o k:Nat),(Tl O o l)[k]? =(l[k]?).map fun d=>T (.sub O (o+k)) d:=by
 intro l;induction l with
 | nil=>intro o k;simp [Tl]
 | cons d l ih=>
  intro o k;cases k with
  | zero=>simp [Tl]
  | succ k=>
   simp only [Tl,Bg,ih];rw [show o+1+k=o+(k+1)by omega]
theorem aDP (O:Tag):∀(l:List Dt) (o:Nat),(Tl O o l).length=l.length:=by
 intro l;induction l with
 | nil=>intro o;rfl
 | cons d l ih=>intro o;simp [Tl,ih]
theorem Je{O:Tag}{cs:List Dt}{b o n cc:Nat}{sp:Option Nat} (ht:TB c S C O (.slice (some ⟨b,o,sp⟩) n cc)) (hd:ZQ S C (.list cs n) (.slice (some ⟨b,o,sp⟩) n cc)){k m:Nat} (hk:k+m<=cs.length) (hm:0<m):
 ∃ws e ck,S.obj b=some (.cells ws e ck)/\o+k+m<=ws.length/\lN c S C (Tl O k ((cs.drop k).take m)) ((ws.drop (o+k)).take m):=by
 cases hd with
 | emp=>simp at hk;omega
 | row AO hb hC ho hl hn hr=>
  rename_i ws e ck;refine⟨ws,e,ck,ho,by omega,by rw [aDP];simp;omega,fun j v w e1 e2=>?_⟩;rw [aJV,pK]at e1;rw [pK]at e2;by_cases hj:j<m
  ·rw [aJ hj,oT]at e1 e2
   cases ed:cs[k+j]? with
   | none=>rw [ed]at e1;cases e1
   | some x=>
    rw [ed]at e1;injection e1 with e1;subst e1;have hw:ws[o+(k+j)]? =some w:=by rw [<-uO];exact e2
    exact aPc (hr (k+j) x w ed hw) (.sub ht hb hC ho hw)
  ·rw [aG hj]at e2;cases e2
theorem aFz (s:VS P B Sb c h S){a:V}{w:Value} (r:fI c S (dI B c h) a w){Kv:KV}{K:VK} (k:∀v w,fI c S (dI B c h) v w->Kv v h->K w S=true) (hv:aT a h Kv):rLd w S K=true:=by
 unfold aT at hv;split at hv
 ·rename_i i o
  cases r with
  | ptr hZ=>
   split at hv
   ·rename_i vs t e
    obtain⟨v,ev,hv⟩:=QR hv;obtain⟨b,ws,a1,a2,a3,a4,a5⟩:=s.row i vs t e;rw [hZ]at a1;injection a1 with a1;subst a1;obtain⟨u,eu,ru⟩:=a5.get ev;rw [aIp a4 eu];exact k v u ru hv
   ·cases hv
 ·rename_i O cs o
  cases r with
  | @pI _ _ b o0 n cc _ sp ht hd=>
   obtain⟨x,ex,hv⟩:=QR hv;have hlt:=(List.getElem?_eq_some_iff.1 ex).1;obtain⟨ws,e,ck,g1,g2,g3⟩:=Je ht hd (k:=o) (m:=1) (by omega) (by omega);have hw:ws[o0+o]? =some (ws[o0+o]'(by omega)):=aQ _;rw [aIp g1 hw];refine k _ _ (g3.rd 0 _ _ ?_ ?_) hv
   ·rw [aJV,pK,aJ (by omega),oT,VN,ex];rfl
   ·rw [pK,aJ (by omega),oT,VN];exact hw
 ·rename_i i n o
  cases r with
  | vY hG=>
   split at hv
   ·rename_i vs t m e
    obtain⟨rfl,hv⟩:=hv;obtain⟨v,ev,hv⟩:=QR hv;obtain⟨b,ws,olds,sz,a1,a2,a3,a4,a5,a6⟩:=s.fW i vs t m e;rw [hG]at a1;injection a1 with a1;injection a1 with a1;injection a1 with a1;injection a1 with a1;subst a1;obtain⟨u,eu,ru⟩:=a5.get ev;rw [aIp a4 eu];exact k v u ru hv
   ·cases hv
 ·cases hv
theorem aB9 (s:VS P B Sb c h S){n:Nat} (hn:0<n){a:V}{w:Value} (r:fI c S (dI B c h) a w){Kv:KV}{K:VK} (k:∀v w,fI c S (dI B c h) v w->Kv v h->K w S=true) (hv:bN n a h Kv):aIb n w S K=true:=by
 unfold bN at hv;split at hv
 ·rename_i i o
  cases r with
  | ptr hZ=>
   split at hv
   ·rename_i vs t e
    obtain⟨hl,hv⟩:=hv;obtain⟨b,ws,a1,a2,a3,a4,a5⟩:=s.row i vs t e;rw [hZ]at a1;injection a1 with a1;subst a1;have:=a5.len;rw [aDg a4 (by omega)];exact k _ _ (.agg ((a5.drop o).take n).len ((a5.drop o).take n).rd) hv
   ·cases hv
 ·rename_i O cs o
  cases r with
  | @pI _ _ b o0 m cc _ sp ht hd=>
   obtain⟨hl,hv⟩:=hv;obtain⟨ws,e,ck,g1,g2,g3⟩:=Je ht hd hl hn;rw [aDg g1 g2];exact k _ _ (.agg g3.len g3.rd) hv
 ·rename_i i m o
  cases r with
  | vY hG=>
   split at hv
   ·rename_i vs t m' e
    obtain⟨rfl,hl,hv⟩:=hv;obtain⟨b,ws,olds,sz,a1,a2,a3,a4,a5,a6⟩:=s.fW i vs t m' e;rw [hG]at a1;injection a1 with a1;injection a1 with a1;injection a1 with a1;injection a1 with a1;subst a1;have:=a5.len;rw [aDg a4 (by omega)];exact k _ _ (.agg ((a5.drop o).take n).len ((a5.drop o).take n).rd) hv
   ·cases hv
 ·cases hv
theorem TC (s:VS P B Sb c h S){x:V}{w:Value} (r:fI c S C x w){k:List V->Prop} (hv:vZ x k):∃vs ws,lN c S C vs ws/\k vs/\ws.all kR=true/\∀K:List Value->Bool,pM w K=K ws:=by
 unfold vZ at hv;split at hv
 ·rename_i cs
  obtain⟨ho,hv⟩:=hv;cases r with
  | agg la ha=>
   rename_i a';have hr:lN c S C cs a':=⟨la,ha⟩;have:=s.aG0 hr ho;refine⟨cs,a',hr,hv,this,fun K=>?_⟩;show(match xH kR a' with | true=>K a' | false=>false)=_;rw [mY,this]
 ·cases hv
 ·rename_i h1 h2
  have ho:fR x=true:=by cases x<;>first | rfl | exact aX rfl (h1 _) | exact aX rfl (h2 _)
  have:=s.one r ho;exact⟨[x],[w],.cons r .nil,hv,by simp [this],fun K=>aBE this K⟩
theorem Da (s:VS P B Sb c h S){i o b:Nat}{vs cs:List V}{ws:List Value}{t:TypeId} (e:h i=some (.row vs t)) (hZ:c.Z i=some b) (g:lN c S (dI B c h) cs ws) (hl:o+cs.length<=vs.length){Kv:Hp->Prop}{K:St->Bool} (k:∀h' S',EX (dI B c h) S S' (dI B c h')->VS P B Sb c h' S'->Kv h'->K S'=true) (hv:Kv (aK h i (.row (aY o cs vs) t))):uP S b o ws K=true:=by
 obtain⟨b',us,a1,a2,a3,a4,a5⟩:=s.row i vs t e;rw [hZ]at a1;injection a1 with a1;subst a1;have l1:=a5.len;have l2:=g.len;unfold uP;rw [LJ a4];show sU o ws us (fun vs=>sR S b (.cells vs t .exact) K)=true;rw [BH,aJ (by omega),gS];obtain⟨s1,s2⟩:=s.setRow e hZ (a5.aY g o);exact k _ _ s2 s1 hv
theorem SM (s:VS P B Sb c h S){i n o b:Nat}{vs cs:List V}{ws:List Value}{t:TypeId} (e:h i=some (.fW vs t n)) (hG:c.G i n=some (.slice (some ⟨b,0,some 0⟩) n n)) (g:lN c S (dI B c h) cs ws) (hl:o+cs.length<=vs.length){Kv:Hp->Prop}{K:St->Bool} (k:∀h' S',EX (dI B c h) S S' (dI B c h')->VS P B Sb c h' S'->Kv h'->K S'=true) (hv:Kv (aK h i (.fW (aY o cs vs) t n))):uP S b o ws K=true:=by
 obtain⟨b',us,olds,sz,a1,a2,a3,a4,a5,a6⟩:=s.fW i vs t n e;rw [hG]at a1;injection a1 with a1;injection a1 with a1;injection a1 with a1;injection a1 with a1;subst a1;have l1:=a5.len;have l2:=g.len;have XC:(aY o cs vs).length=vs.length:=by unfold aY;simp;omega
 unfold uP;rw [LJ a4]
 show(NC o us fun l=>match Ht ws l with
  | true=>K S
  | false=>sU o ws us fun vs=>Uu olds S.h fun h=>ZF (.cells vs t (.grown [])) (Nat.succ b) h b fun h=>K ⟨h,S.n⟩)=true
 rw [DG,aJ (by omega)];cases hs:Ht ws (us.drop o)with
 | true=>
  obtain⟨_,q⟩:=Vl hs
  have hus:aY o ws us=us:=by
   apply xE;intro j;rw [sB _ _ _ (by omega)];split
   ·rename_i hj
    have:=q (j-o) _ (aQ (by omega));rw [oT,show o+(j-o)=j by omega]at this;rw [this,aQ (by omega)]
   ·rfl
  obtain⟨s1,s2⟩:=s.aJS (vs':=aY o cs vs) (ws':=us) (olds:=olds) (ol:=olds) (kl:=[]) (fun _ h=>h) (fun _ h=>by cases h) e hG a4 XC (by have:=a5.aY g o;rwa [hus]at this) (S':=S) rfl (fun j=>by
   by_cases hj:j=b
   ·rw [aJ hj,hj,a4]
   ·rw [aG hj,aG (by simp)])
  exact k _ _ s2 s1 hv
 | false=>
  show(sU o ws us fun vs=>Uu olds S.h fun h=>ZF (.cells vs t (.grown [])) (Nat.succ b) h b fun h=>K ⟨h,S.n⟩)=true;rw [BH,aJ (by omega),aAZ,RZ]
  obtain⟨s1,s2⟩:=s.aJS (vs':=aY o cs vs) (ws':=aY o ws us) (olds:=olds) (ol:=[]) (kl:=olds) (fun _ h=>by cases h) (fun _ h=>h) e hG a4 XC (a5.aY g o) (S':=⟨Tr.JS (iW.cells (aY o ws us) t (CK.grown [])) b.succ (olds.foldl (fun h i=>h.put i iW.dead) S.h) b,S.n⟩) rfl (fun j=>by
   show Tr.get (Tr.JS _ (b+1) _ b) j=_;rw [Oq _ _ _ _ _ (xF b),aA0];rfl)
  exact k _ _ s2 s1 hv
theorem aMu (s:VS P B Sb c h S){n:Nat}{a x:V}{w y:Value} (r:fI c S (dI B c h) a w) (q:fI c S (dI B c h) x y){Kv:Hp->Prop}{K:St->Bool} (k:∀h' S',EX (dI B c h) S S' (dI B c h')->VS P B Sb c h' S'->Kv h'->K S'=true) (hv:mL n a x h Kv):rSt n w y S K=true:=by
 unfold mL at hv;split at hv
 ·rename_i i o
  cases r with
  | @ptr _ _ b hZ=>
   split at hv
   ·rename_i vs t e
    obtain⟨cs,ws,g1,⟨g2,g3,g4⟩,g5,g6⟩:=TC s q hv;have l2:=g1.len;show pM y (fun cs=>KQ cs fun m=>match Nat.beq m n with | true=>uP S b o cs K | false=>false)=true;rw [g6,nT,show Nat.beq ws.length n=true by rw [<-l2,g2];exact Br n];exact Da s e hZ g1 (by omega) k g4
   ·cases hv
 ·rename_i i q' o
  cases r with
  | @vY _ _ _ b hG=>
   split at hv
   ·rename_i vs t m e
    obtain⟨rfl,hv⟩:=hv;obtain⟨cs,ws,g1,⟨g2,g3,g4⟩,g5,g6⟩:=TC s q hv;have l2:=g1.len;show pM y (fun cs=>KQ cs fun m=>match Nat.beq m n with | true=>uP S b o cs K | false=>false)=true;rw [g6,nT,show Nat.beq ws.length n=true by rw [<-l2,g2];exact Br n];exact SM s e hG g1 (by omega) k g4
   ·cases hv
 ·cases hv
end
section
variable{P:Program}{B:Nat->Prop}{Sb:St}{c c' d:Cx}{h h':Hp}{S S':St}{C C':Nat->Prop}
def KR (P:Program) (B:Nat->Prop) (Sb:St) (c:Cx) (h:Hp) (S:St) (Kv:KV) (K:VK):Prop:=
 ∀c' h' S' v w,c.le c'->EX (dI B c h) S S' (dI B c' h')->VS P B Sb c' h' S'->fI c' S' (dI B c' h') v w->Kv v h'->K w S'=true
theorem KR.here{Kv:KV}{K:VK} (k:KR P B Sb c h S Kv K) (s:VS P B Sb c h S){v:V}{w:Value} (r:fI c S (dI B c h) v w) (hk:Kv v h):K w S=true:=k c h S v w (.refl c) (.refl _ S) s r hk
theorem Gp (s:VS P B Sb c h S){vs:List V}{ws:List Value}{t:TypeId} (hv:lN c S (dI B c h) vs ws){Kn:Nat->Hp->Prop} (hn:aJE vs t h Kn):
 ∃c' h' i,c.le c'/\EX (dI B c h) S (S.new (.cells ws t .exact)) (dI B c' h')/\VS P B Sb c' h' (S.new (.cells ws t .exact))/\c'.Z i=some S.n/\Kn i h':=by
 obtain⟨i,e1,e2,e3⟩:=s.fresh;obtain⟨a1,a2,a3,a4⟩:=s.newRow e1 e2 e3 t hv;exact⟨_,_,i,a2,a3,a1,a4,hn i e1⟩
theorem aDQ (s:VS P B Sb c h S){z:List Value}{t:TypeId}{Kv:KV}{K:VK} (k:KR P B Sb c h S Kv K) (hv:cW z t h Kv):Im z t S K=true:=by
 unfold cW rL at hv;split at hv
 ·rename_i l e
  obtain⟨c',h',i,a1,a2,a3,a4,a5⟩:=Gp s (YX e) hv;rw [aIr];exact k c' h' _ _ _ a1 a2 a3 (.ptr a4) a5
 ·cases hv
theorem aJW (s:VS P B Sb c h S){t:TypeId}{x:V}{w:Value} (r:fI c S (dI B c h) x w){Kv:KV}{K:VK} (k:KR P B Sb c h S Kv K) (hv:iD t x h Kv):aAM t w S K=true:=by
 obtain⟨cs,ws,g1,g2,g3,g4⟩:=TC s r hv;obtain⟨c',h',i,a1,a2,a3,a4,a5⟩:=Gp s g1 g2;unfold aAM;rw [g4,jB];exact k c' h' _ _ _ a1 a2 a3 (.ptr a4) a5
def PsR (c:Cx) (S:St) (C:Nat->Prop):List (Nat×Nat×V)->List (Nat×Nat×Value)->Prop
 | [],[]=>True
 | (o,n,v)::l,(o',n',w)::m=>o=o'/\n=n'/\fI c S C v w/\PsR c S C l m
 | _,_=>False
theorem Wm (s:VS P B Sb c h S):∀{ps:List (Nat×Nat×V)} {Su:List (Nat×Nat×Value)} {cs:List V} {cs':List Value} {k:List V->Prop} {k':List Value->Bool},PsR c S C ps Su->lN c S C cs cs'->iG ps cs k->(∀cs cs',lN c S C cs cs'->k cs->k' cs'=true)->WY Su cs' k'=true:=by
 intro ps;induction ps with
 | nil=>
  intro Su cs cs' k k' hp hc hv hk
  match Su,hp with
  | [],_=>exact hk cs cs' hc hv
 | cons p ps ih=>
  intro Su cs cs' k k' hp hc hv hk;obtain⟨o,n,v⟩:=p
  match Su,hp with
  | (o',n',w)::Su,hp=>
   obtain⟨rfl,rfl,r,hp⟩:=hp;obtain⟨vs,ws,g1,⟨g2,g3,g4⟩,g5,g6⟩:=TC s r hv;have l1:=g1.len;have l2:=hc.len;show pM w (fun new=>KQ new fun m=>match Nat.beq m n with | true=>sU o new cs' (fun cs=>WY Su cs k') | false=>false)=true;rw [g6,nT,show Nat.beq ws.length n=true by rw [<-l1,g2];exact Br n];show sU o ws cs' (fun cs=>WY Su cs k')=true;rw [BH,aJ (by omega)];exact ih hp (hc.aY g1 o) g4 hk
theorem Db{A:VA}{A':bC} (a:AR c S C A A'){place:Nat->Option (Nat×Nat)}:∀{ps:List (Nat×Operand)} {k:List (Nat×Nat×V)->Prop} {k':List (Nat×Nat×Value)->Bool},(Jd place ps).f A k->(∀l l',PsR c S C l l'->k l->k' l'=true)->(LI place ps).f A' k'=true:=by
 intro ps;induction ps with
 | nil=>intro k k' hv hk;exact hk [] [] trivial hv
 | cons p ps ih=>
  intro k k' hv hk
  have e1:Jd place (p::ps)=match place p.1 with
   | some (off,size)=>⟨fun A k=>(AK p.2).f A fun v=>(Jd place ps).f A fun l=>k ((off,size,v)::l)⟩
   | none=>⟨fun _ _=>False⟩:=rfl
  have e2:LI place (p::ps)=match place p.1 with
   | some (off,size)=>⟨fun A k=>(AQ p.2).f A fun v=>(LI place ps).f A fun l=>k ((off,size,v)::l)⟩
   | none=>⟨fun _ _=>false⟩:=rfl
  rw [e1]at hv;rw [e2];cases hp:place p.1 with
  | none=>rw [hp]at hv;cases hv
  | some q=>
   obtain⟨off,size⟩:=q;rw [hp]at hv;simp only at hv ⊢;rw [kU];refine cC a hv fun v w r hv=>?_;exact ih hv fun l l' hl h=>hk ((off,size,v)::l) ((off,size,w)::l') ⟨rfl,rfl,r,hl⟩ h
theorem Rb (s:VS P B Sb c h S){z:List Value}{ps:List (Nat×Nat×V)}{Su:List (Nat×Nat×Value)} (hp:PsR c S C ps Su){Kv:V->Prop}{K:Value->Bool} (k:∀v w,fI c S C v w->Kv v->K w=true) (hv:cV z ps Kv):aDd z Su K=true:=by
 unfold cV rL at hv;split at hv
 ·rename_i l e
  exact Wm s hp (YX e) hv fun cs cs' r h=>k _ _ (.agg r.len r.rd) h
 ·cases hv
theorem aCa (s:VS P B Sb c h S){el n:Nat}{z:List Value}{ps:List (Nat×Nat×V)}{Su:List (Nat×Nat×Value)} (hp:PsR c S (dI B c h) ps Su){Kv:KV}{K:VK} (k:KR P B Sb c h S Kv K) (hv:aS el n z ps h Kv):Yv el n z Su S K=true:=by
 unfold aS rL at hv;split at hv
 ·rename_i l e
  unfold Yv;rw [GU];refine Wm s hp ((YX e).flatten n) hv fun cs cs' r hv=>?_;obtain⟨c',h',i,a1,a2,a3,a4,a5⟩:=Gp s r hv;rw [jB];exact k c' h' _ _ _ a1 a2 a3 (.own a4) a5
 ·cases hv
theorem aJX{off:Nat}{x:V}{w:Value} (r:fI c S C x w){Kv:V->Prop}{K:Value->Bool} (k:∀v w,fI c S C v w->Kv v->K w=true) (hv:aP off x Kv):aIc off w K=true:=by
 unfold aP at hv;split at hv
 ·cases r with | ptr e=>rw [aDf];exact k _ _ (.ptr e) hv
 ·cases r with | pI ht hd=>rw [aDf,uO];exact k _ _ (.pI ht hd) hv
 ·cases r with | vY e=>rw [aDf];exact k _ _ (.vY e) hv
 ·cases hv
theorem aDR{off:Nat}{x:V}{w:Value} (r:fI c S C x w){Kv:V->Prop}{K:Value->Bool} (k:∀v w,fI c S C v w->Kv v->K w=true) (hv:aDG off x Kv):Pu off w K=true:=by
 unfold aDG at hv;split at hv
 ·cases r with
  | agg la ha=>
   obtain⟨v,e,hv⟩:=QR hv;obtain⟨u,eu,ru⟩:=lN.get ⟨la,ha⟩ e;rw [aIq eu];exact k v u ru hv
 ·cases hv
theorem aCb{off n:Nat}{x:V}{w:Value} (r:fI c S C x w){Kv:V->Prop}{K:Value->Bool} (k:∀v w,fI c S C v w->Kv v->K w=true) (hv:aAe off n x Kv):Ex off n w K=true:=by
 unfold aAe at hv;split at hv
 ·cases r with
  | agg la ha=>
   obtain⟨hl,hv⟩:=hv;have hr:lN c S C _ _:=⟨la,ha⟩;rw [aGw (by omega)];exact k _ _ (.agg ((hr.drop off).take n).len ((hr.drop off).take n).rd) hv
 ·cases hv
theorem aJY (s:VS P B Sb c h S){size:Nat}{x ix:V}{w iw:Value} (r:fI c S C x w) (ri:fI c S C ix iw){Kv:V->Prop}{K:Value->Bool} (k:∀v w,fI c S C v w->Kv v->K w=true) (hv:cF size x ix Kv):aLw size w iw K=true:=by
 unfold cF at hv;split at hv
 ·rename_i j i
  cases ri;split at hv
  ·obtain⟨hi,hv⟩:=hv
   cases r with
   | list ht hd=>
    cases hd with
    | nil=>omega
    | emp=>omega
    | @row b0 o0 _ cc sp us e0 ck0 _ AO hb hC ho hl hn hr=>
     have hlt:Nat.blt i _=true:=nJ hi;have:=k _ _ (.pI ht (.row AO hb hC ho hl hn hr)) hv
     match sp,AO with
     | none,_=>show(match Nat.blt i _ with | true=>_ | false=>false)=true;rw [hlt,bK];exact this
     | some 0,_=>show(match Nat.blt i _ with | true=>_ | false=>false)=true;rw [hlt,bK];exact this
  ·obtain⟨hi,hv⟩:=hv
   cases r with
   | own e=>
    have hlt:Nat.blt i _=true:=nJ hi;show(match Nat.blt i _ with | true=>_ | false=>false)=true;rw [hlt,bK];exact k _ _ (.ptr e) hv
  ·obtain⟨hi,hv⟩:=hv
   cases r with
   | acc e=>
    obtain⟨b,rfl⟩:=s.Gs _ _ _ e;have hlt:Nat.blt i _=true:=nJ hi;show(match Nat.blt i _ with | true=>_ | false=>false)=true;rw [hlt,bK,eG];exact k _ _ (.vY e) hv
  ·obtain⟨hi,hv⟩:=hv
   cases r with
   | ID e=>
    have hlt:Nat.blt i _=true:=nJ hi;show(match Nat.blt i _ with | true=>_ | false=>false)=true;rw [hlt,bK];exact k _ _ (.vY e) hv
  ·cases hv
 ·cases hv
theorem aDS{x ix:V}{w iw:Value} (r:fI c S C x w) (ri:fI c S C ix iw){Kv:V->Prop}{K:Value->Bool} (k:∀v w,fI c S C v w->Kv v->K w=true) (hv:aDH x ix Kv):Yq w iw K=true:=by
 unfold aDH at hv;split at hv
 ·cases ri
  split at hv
  ·rename_i l
   cases r;obtain⟨b,e,hv⟩:=QR hv;show ZG l _ (fun b:UInt8=>bV b.toNat fun n=>K (.int .u8 (.ofNat n)))=true;rw [Yw e,bK];exact k _ _ .int hv
  ·cases hv
 ·cases hv
theorem aJZ{i:Nat}{x:V}{w:Value} (r:fI c S C x w){Kv:V->Prop}{K:Value->Bool} (k:∀v w,fI c S C v w->Kv v->K w=true) (hv:tK i x Kv):aIj i w K=true:=by
 unfold tK at hv;split at hv
 ·cases r with
  | tuple la ha=>
   obtain⟨v,e,hv⟩:=QR hv;obtain⟨u,eu,ru⟩:=lN.get ⟨la,ha⟩ e;rw [aOk,Yw eu];exact k v u ru hv
 ·cases hv
theorem aJ0{kd:IntKind}{x:V}{w:Value} (r:fI c S C x w){Kv:V->Prop}{K:Value->Bool} (k:∀v w,fI c S C v w->Kv v->K w=true) (hv:LS kd x Kv):aIi kd w K=true:=by
 unfold LS at hv;split at hv
 ·cases r;rw [aOl];exact k _ _ .int hv
 ·cases hv
theorem aG1 (s:VS P B Sb c h S){x:V}{w:Value} (r:fI c S C x w){Kv:V->Prop}{K:Value->Bool} (k:∀v w,fI c S C v w->Kv v->K w=true) (hv:bH x Kv):aEM w K=true:=by
 unfold bH at hv;split at hv
 ·cases r with
  | list ht hd=>cases hd<;>exact k _ _ .int hv
 ·cases r;exact k _ _ .int hv
 ·cases r with
  | acc e=>obtain⟨b,rfl⟩:=s.Gs _ _ _ e;exact k _ _ .int hv
 ·cases r;exact k _ _ .int hv
 ·cases r;exact k _ _ .int hv
 ·cases r;exact k _ _ .int hv
 ·cases hv
theorem aG2{x:V}{w:Value} (r:fI c S C x w){Kv:V->Prop}{K:Value->Bool} (k:∀v w,fI c S C v w->Kv v->K w=true) (hv:aJF x Kv):aBB w K=true:=by
 unfold aJF at hv;split at hv
 ·cases r;rw [aLB];exact k _ _ .int hv
 ·cases hv
theorem Src.aDT{i o n cc size:Nat}{sp:Option Nat} (AO:Sx sp=true){vs:List Value}{e:TypeId}{ck:CK} (ho:S.obj i=some (.cells vs e ck)) (hn:o+n*size<=vs.length) (h1:∀v∈(vs.drop o).take (n*size),kR v=true):Src S size (.slice (some ⟨i,o,sp⟩) n cc) n ((vs.drop o).take (n*size)):=by
 refine⟨fun k=>rfl,fun k hz=>?_,h1⟩;obtain⟨m,rfl⟩:=bG hz
 match sp,AO with
 | none,_=>show PM S i o ((m+1)*size) k=_;rw [YQ ho hn]
 | some 0,_=>show PM S i o ((m+1)*size) k=_;rw [YQ ho hn]
theorem aCc (s:VS P B Sb c h S){size:Nat} (hs0:0<size){x:V}{w:Value} (r:fI c S (dI B c h) x w){kv:Nat->List V->Prop} (hv:Tx size x h kv):∃n vs ws,kv n vs/\lN c S (dI B c h) vs ws/\vs.length=n*size/\(∀k,TL w k=k n)/\(vs.all fR=true->Src S size w n ws):=by
 unfold Tx at hv;split at hv
 ·cases r
  exact⟨0,[],[],hv,.nil,by simp,fun k=>rfl,fun _=>⟨fun k=>rfl,fun k hz=>aX rfl hz,fun v hv=>by cases hv⟩⟩
 ·rename_i O cs n
  obtain⟨hl,hv⟩:=hv;cases r with
  | list ht hd=>
   have hlen:∀k,TL w k=k n:=fun k=>by cases hd<;>rfl
   rcases RH n with hz | hz
   ·subst hz
    refine⟨0,_,[],hv,?_,by simp [aDP],hlen,fun _=>⟨hlen,fun k hz=>aX rfl hz,fun v hv=>by cases hv⟩⟩;rw [Bq,List.take_zero];exact .nil
   ·cases hd with
    | nil=>omega
    | emp=>omega
    | @row b o _ cc sp vs e ck _ AO hb hC ho DK hn hr=>
     have Lf:0<n*size:=Nat.mul_pos hz hs0;obtain⟨us,e',ck',g1,g2,g3⟩:=Je ht (.row AO hb hC ho DK hn hr) (k:=0) (m:=n*size) (by omega) Lf;rw [ho]at g1;injection g1 with g1;injection g1 with g1;subst g1;rw [xG,VN]at g3;refine⟨n,_,_,hv,g3,by rw [aDP,mP];omega,hlen,fun h1=>Src.aDT AO ho (by omega) fun v hv=>?_⟩;exact List.all_eq_true.1 (s.aG0 g3 h1) v hv
 ·rename_i i o n cc
  cases r with
  | own hZ=>
   split at hv
   ·rename_i vs t e
    obtain⟨hl,hv⟩:=hv;obtain⟨b,ws,a1,a2,a3,a4,a5⟩:=s.row i vs t e;rw [hZ]at a1;injection a1 with a1;subst a1;have l:=a5.len;have hr:=(a5.drop o).take (n*size);refine⟨n,_,_,hv,hr,by rw [mP,IG];omega,fun k=>rfl,fun h1=>Src.row a4 (by omega) fun v hv=>List.all_eq_true.1 (s.aG0 hr h1) v hv⟩
   ·cases hv
 ·rename_i i n
  cases r with
  | acc hG=>
   split at hv
   ·rename_i vs t m e
    obtain⟨rfl,hl,hv⟩:=hv;obtain⟨b,ws,olds,sz,a1,a2,a3,a4,a5,a6⟩:=s.fW i vs t m e;rw [hG]at a1;injection a1 with a1;subst a1;have l:=a5.len;refine⟨m,vs,ws,hv,a5,hl,fun k=>rfl,fun h1=>?_⟩;have:=Src.aDT (n:=m) (cc:=m) (size:=size) (o:=0) (sp:=some 0) rfl a4 (by omega) (fun v hv=>List.all_eq_true.1 (s.aG0 a5 h1) v (by rw [xG]at hv;exact Hm hv))
    rwa [xG,lQ (by omega)]at this
   ·cases hv
 ·rename_i i n o q cc
  cases r with
  | ID hG=>
   split at hv
   ·rename_i vs t m e
    obtain⟨rfl,hl,hv⟩:=hv;obtain⟨b,ws,olds,sz,a1,a2,a3,a4,a5,a6⟩:=s.fW i vs t m e;rw [hG]at a1;injection a1 with a1;injection a1 with a1;injection a1 with a1;injection a1 with a1;subst a1;have l:=a5.len;have hr:=(a5.drop o).take (q*size);refine⟨q,_,_,hv,hr,by rw [mP,IG];omega,fun k=>rfl,fun h1=>Src.aDT (n:=q) (cc:=cc) (size:=size) (o:=o) (sp:=some 0) rfl a4 (by omega) fun v hv=>List.all_eq_true.1 (s.aG0 hr h1) v hv⟩
   ·cases hv
 ·cases r
  exact⟨0,[],[],hv,.nil,by simp,fun k=>rfl,fun _=>⟨fun k=>rfl,fun k hz=>aX rfl hz,fun v hv=>by cases hv⟩⟩
 ·rename_i l
  cases r;obtain⟨rfl,hv⟩:=hv;have hx:=Src.text S l;refine⟨l.length,_,Yy l,hv,⟨by simp [Yy],fun k v w e1 e2=>?_⟩,by simp,hx.len,fun _=>hx⟩;unfold Yy at e2;rw [dO]at e1 e2;cases e:l[k]? with
  | none=>rw [e]at e1;cases e1
  | some b=>rw [e]at e1 e2;injection e1 with e1;injection e2 with e2;subst e1 e2;exact .int
 ·cases hv
theorem aJ1 (s:VS P B Sb c h S){el size bytes:Nat} (hs0:0<size) (hsz:cN P el=some size){y x:V}{w u:Value} (r:fI c S (dI B c h) y w) (q:fI c S (dI B c h) x u){Kv:KV}{K:VK} (k:KR P B Sb c h S Kv K) (hv:jT el size bytes y x h Kv):aDb P el size bytes w u S K=true:=by
 obtain⟨m,vs,ws,hv,hr,hl,hlen,aBl⟩:=aCc s hs0 q hv;cases m with
 | zero=>
  have hap:∀b n cc,w= .slice b n cc->n<=cc->Kv y h->aDb P el size bytes w u S K=true:=fun b n cc e hn hk=>by
   have hw:=k.here s r hk;subst e;show TL u _=true;rw [hlen];show(match Nat.ble n cc with | true=>K (.slice b n cc) S | false=>false)=true;rw [show Nat.ble n cc=true from nJ hn];exact hw
  simp only at hv;split at hv
  ·cases r;exact hap _ _ _ rfl (bR _) hv
  ·cases r with
   | acc e=>obtain⟨b,rfl⟩:=s.Gs _ _ _ e;exact hap _ _ _ rfl (bR _) hv
  ·cases r;exact hap _ _ _ rfl hv.1 hv.2
  ·cases r with
   | list ht hd=>
    cases hd with
    | nil=>exact hap _ _ _ rfl (bR _) hv
    | emp=>exact hap _ _ _ rfl (bR _) hv
    | row _ _ _ _ _ hn _=>exact hap _ _ _ rfl hn hv
  ·cases hv
 | succ m=>
  obtain⟨h1,hv⟩:=hv;have hx:=aBl h1;split at hv
  ·obtain⟨hb,hv⟩:=hv
   cases r;rw [aIs hx (by omega) hb];obtain⟨i,e1,e2,e3⟩:=s.fresh;obtain⟨a1,a2,a3,a4⟩:=s.aJR e1 e2 e3 hsz hl hr;exact k _ _ _ _ _ a2 a3 a1 (.acc a4) (hv i e1)
  ·rename_i i n hv0
   cases ei:h i with
   | none=>simp only [ei]at hv
   | some ob=>
   cases ob with
   | row us t=>simp only [ei]at hv
   | map es=>simp only [ei]at hv
   | wD=>simp only [ei]at hv
   | iter=>simp only [ei]at hv
   | loop=>simp only [ei]at hv
   | fW us t n'=>
    simp only [ei]at hv;obtain⟨hn',ht',hul,hb,hv⟩:=hv;subst hn' ht';have e:=ei;obtain⟨b,ws2,olds,sz,a1,a2,a3,a4,a5,a6,a7,a8⟩:=s.fW i us _ _ e;cases r with
    | acc hG=>
     rw [a1]at hG;injection hG with hG;subst hG;have l2:=a5.len;rw [aIt hx (by omega) hb a4 (by omega) hsz];obtain⟨b1,b2,b3,b4⟩:=s.aMr e a1 a4 hsz hl (by omega) hul a5 hr;exact k _ _ _ _ _ b2 b3 b1 (.acc b4) hv
  ·rename_i i o n cc hv0
   cases ei:h i with
   | none=>simp only [ei]at hv
   | some ob=>
   cases ob with
   | fW us t n'=>simp only [ei]at hv
   | map es=>simp only [ei]at hv
   | wD=>simp only [ei]at hv
   | iter=>simp only [ei]at hv
   | loop=>simp only [ei]at hv
   | row us t=>
    simp only [ei]at hv;obtain⟨hb,aTe,So,aN2⟩:=hv;obtain⟨b,ws2,a1,a2,a3,a4,a5⟩:=s.row i us t ei;have l2:=a5.len;cases r with
    | own hZ=>
     rw [a1]at hZ;injection hZ with hZ;subst hZ;show TL u _=true;rw [hx.len];show OW S size (m+1) u _=true;rw [hx.first _ (by omega)];simp only [bK];rw [show Dn (n+(m+1)) bytes=true from Nu hb];by_cases hc:n+(m+1)<=cc
     ·rw [show Nat.ble (n+(m+1)) cc=true from nJ hc]
      obtain⟨Ch,hv⟩:=So hc;have RP:xH kR ws=true:=by rw [mY];exact s.aG0 hr h1
      show Hw size ws (some ⟨b,o,none⟩) n cc (n+(m+1)) S K=true;unfold Hw;simp only [show Sx none=true from rfl,RP];show bV (o+n*size) (fun at_=>uP S b at_ ws fun S=>K (.slice (some ⟨b,o,none⟩) (n+(m+1)) cc) S)=true;rw [bK];show uP S b (o+n*size) ws _=true;unfold uP;rw [LJ a4];show sU (o+n*size) ws ws2 (fun vs=>sR S b (.cells vs t .exact) fun S=>K (.slice (some ⟨b,o,none⟩) (n+(m+1)) cc) S)=true;have l3:=hr.len;rw [BH,aJ (by omega),gS];obtain⟨s1,s2⟩:=s.setRow ei a1 (a5.aY hr (o+n*size));exact k c _ _ _ _ (.refl c) s2 s1 (.own a1) hv
     ·have:Nat.ble (n+(m+1)) cc=false:=by
       cases hq:Nat.ble (n+(m+1)) cc with
       | false=>rfl
       | true=>exact aX (cG hq) hc
      rw [this];have hv:=aN2 (by omega);show Dp P el size ws (some ⟨b,o,none⟩) n (n+(m+1)) S K=true;show PM S b o (n*size) (fun old=>TM el old ws (n+(m+1)) none S K)=true;rw [YQ a4 (by omega)];unfold TM;rw [nA];simp only [jB];obtain⟨j,e1,e2,e3⟩:=s.fresh;have hr2:=((a5.drop o).take (n*size)).app hr
      have hn2:((us.drop o).take (n*size)++vs).length=(n+(m+1))*size:=by
       rw [jU,mP,IG,hl,KP n,Nat.min_eq_left (by omega)]
      obtain⟨b1,b2,b3,b4⟩:=s.aJR e1 e2 e3 hsz hn2 hr2;exact k _ _ _ _ _ b2 b3 b1 (.acc b4) (hv j e1)
  ·cases hv
theorem aJ2{x:V}{w:Value} (r:fI c S C x w){Kv:V->Prop}{K:Value->Bool} (k:∀v w,fI c S C v w->Kv v->K w=true) (hv:oW P x Kv):aLy P w K=true:=by
 unfold oW at hv;split at hv
 ·cases r with | ptr e=>exact k _ _ (.ptr e) hv
 ·cases r with | pI ht hd=>exact k _ _ (.pI ht hd) hv
 ·cases r with | vY e=>exact k _ _ (.vY e) hv
 ·cases r with | func a b e f=>exact k _ _ (.func a b e f) hv
 ·cases r with | iface e=>exact k _ _ (.iface e) hv
 ·split at hv
  ·rename_i s v t w'
   split at hv
   ·rename_i g hg
    cases r with
    | KZ r=>
     cases r with
     | iface r=>
      show(match KT P t s with | some _=>_ | none=>false)=true;rw [hg];exact k _ _ (.KZ (.iface r)) hv
   ·cases hv
  ·cases hv
 ·cases hv
theorem aSB (x y:Int):(x==y)=decide (x=y):=by
 by_cases e:x=y
 ·subst e;simp
 ·rw [bJ e];simpa using e
inductive NR:NK->Bool->Value->Prop
 | p0 {a:Addr}:NR .ptr false (.pointer (some a))
 | p1:NR .ptr true (.pointer none)
 | s0 {a:Addr} {n m:Nat}:NR .slice false (.slice (some a) n m)
 | s1 {n m:Nat}:NR .slice true (.slice none n m)
 | m0 {b:Nat}:NR .map false (.map (some b))
 | m1:NR .map true (.map none)
 | f0 {f:Fn} {a b:Array Value}:NR .func false (.func f a b)
 | f1:NR .func true .nilFunc
 | i0 {t:TypeId} {v:Value}:NR .iface false (.iface t v)
 | i1:NR .iface true .nilIface
theorem Rc (hG:∀i n w,c.G i n=some w->∃b,w= .slice (some ⟨b,0,some 0⟩) n n){a:V}{u:Value} (r:fI c S C a u){kk:NK}{x:Bool} (hk:aAf a=some (kk,x)):NR kk x u:=by
 cases r with
 | @list O cs n w ht hd=>
  cases cs with
  | nil=>cases hk
  | cons d cs=>
   injection hk with hk;injection hk with h1 h2;subst h1 h2;cases hd with
   | row=>exact .s0
 | acc e=>obtain⟨b,rfl⟩:=hG _ _ _ e;injection hk with hk;injection hk with h1 h2;subst h1 h2;exact .s0
 | _=>first
  | (cases hk;done)
  | (injection hk with hk;injection hk with h1 h2;subst h1 h2;constructor)
theorem aNx{t:TypeId}{kk:NK}{x y:Bool}{u w:Value} (hx:NR kk x u) (hy:NR kk y w) (ho:x=true\/y=true) (hi:x=true->y=true->kk≠ .iface) (ht:Fl P t=some kk) (k:Bool->Bool):pN P t u w k=k (x&&y):=by
 unfold Fl at ht;cases hx<;>cases hy<;>first | (rcases ho with ho | ho<;>cases ho;done) | (exact aX rfl (hi rfl rfl)) | (unfold pN;split at ht<;>first | (rename_i hu;simp only [hu];rfl) | (cases ht;done))
theorem aCd{O:Tag}{n:Nat}{u:Value} (r:fI c S C (.list O [] n) u):∃x,NR .slice x u:=by
 cases r with
 | list ht hd=>
  cases hd with
  | nil=>exact⟨true,.s1⟩
  | emp=>exact⟨false,.s0⟩
  | row=>exact⟨false,.s0⟩
theorem aDU{op:BinOp}{t:TypeId}{a b:V}{u w:Value} (r:fI c S C a u) (q:fI c S C b w){Kv:V->Prop}{K:Value->Bool} (k:∀v w,fI c S C v w->Kv v->K w=true) (hv:aDI P op t a b Kv):By P op t u w K=true:=by
 unfold aDI at hv;split at hv
 ·split at hv
  ·obtain⟨ht,hv⟩:=hv
   obtain⟨x,hx⟩:=aCd r;cases q;have hy:NR .slice true (.slice none 0 0):= .s1;have e:=aNx hx hy (.inr rfl) (fun _ _ h=>by cases h) ht;cases op<;>first | (cases hv;done) | skip
   ·have:By P .eql t u (.slice none 0 0) K=pN P t u (.slice none 0 0) fun e=>oK e K:=by cases hx<;>rfl
    rw [this,e,rI];cases x with
    | true=>exact k _ _ .bool hv.1
    | false=>exact k _ _ .bool hv.2
   ·have:By P .neq t u (.slice none 0 0) K=pN P t u (.slice none 0 0) fun e=>oK (!e) K:=by cases hx<;>rfl
    rw [this,e,rI];cases x with
    | true=>exact k _ _ .bool hv.2
    | false=>exact k _ _ .bool hv.1
  ·cases hv
 ·cases hv
theorem aDV{op:BinOp}{t:TypeId}{a b:V}{u w:Value} (hG:∀i n w,c.G i n=some w->∃b,w= .slice (some ⟨b,0,some 0⟩) n n) (r:fI c S C a u) (q:fI c S C b w){Kv:V->Prop}{K:Value->Bool} (k:∀v w,fI c S C v w->Kv v->K w=true) (hv:aDJ P op t a b Kv):By P op t u w K=true:=by
 unfold aDJ at hv;split at hv
 ·rename_i ka x ha
  split at hv
  ·rename_i kb y hb
   obtain⟨rfl,ht,hxy,hi,hv⟩:=hv;have hx:=Rc hG r ha;have hy:=Rc hG q hb;have e:=aNx hx hy hxy hi ht;cases op<;>first | (cases hv;done) | skip
   ·have:By P .eql t u w K=pN P t u w fun e=>oK e K:=by cases hx<;>cases hy<;>rfl
    rw [this,e,rI];exact k _ _ .bool hv
   ·have:By P .neq t u w K=pN P t u w fun e=>oK (!e) K:=by cases hx<;>cases hy<;>rfl
    rw [this,e,rI];exact k _ _ .bool hv
  ·cases hv
 ·exact aDU r q k hv
theorem aJ3{op:BinOp}{t:TypeId}{a b:V}{u w:Value} (hG:∀i n w,c.G i n=some w->∃b,w= .slice (some ⟨b,0,some 0⟩) n n) (r:fI c S C a u) (q:fI c S C b w){Kv:V->Prop}{K:Value->Bool} (k:∀v w,fI c S C v w->Kv v->K w=true) (hv:aH P op t a b Kv):aIh P op t u w K=true:=by
 rw [SK];unfold aH at hv;split at hv
 ·rename_i j x
  split at hv
  ·rename_i k' y
   cases r;cases q;cases hs:yJ op with
   | true=>
    rw [hs]at hv;obtain⟨hy,hv⟩:=hv;have hlt:ltI y 0=false:=by rw [WD];exact bJ (by omega)
    cases op<;>first | cases hs | skip
    ·show Bw .shl j x y K=true
     unfold Bw;rw [hlt];show OV j (x*2 ^ (min y.toNat j.bits)) K=true;unfold OV;rw [nU];exact k _ _ .int hv
    ·show Bw .shr j x y K=true
     unfold Bw;rw [hlt];show CZ (x.fdiv (2 ^ (min y.toNat j.bits))) (fun n=>K (.int j n))=true;rw [nU];exact k _ _ .int hv
   | false=>
    rw [hs]at hv;obtain⟨rfl,hv⟩:=hv
    have hg:By P op t (.int j x) (.int j y) K=RK op j x y K:=by
     rw [<-SK];exact aOm _ _ _ _ _ _ (by rintro rfl;cases hs) (by rintro rfl;cases hs)
    rw [hg]
    have hint:∀n,Kv (.int j (sH j n))->OV j n K=true:=fun n hv=>by
     unfold OV;rw [nU];exact k _ _ .int hv
    have h0:∀y:Int,y≠0->eqI y 0=false:=fun y hy=>by rw [RR];simpa using hy
    cases op<;>first
     | exact hint _ hv
     | (obtain⟨hy,hv⟩:=hv;show(match eqI y 0 with | true=>false | false=>_)=true;rw [h0 y hy];first | exact hint _ hv | (show CZ _ _=true;rw [nU];exact k _ _ .int hv))
     | (show CZ (j.wrap _) (fun n=>K (.int j n))=true;rw [nU];exact k _ _ .int hv)
     | (show oK _ K=true;rw [rI];simp only [RR,WD,aSB];first | exact k _ _ .bool hv | (have e1:(!decide (y<x))=decide (x<=y):=(by by_cases h:y<x;rw [bF h,bJ (show ¬x<=y by omega)];rfl;rw [bJ h,bF (show x<=y by omega)];rfl);rw [e1];exact k _ _ .bool hv) | (have e1:(!decide (x<y))=decide (y<=x):=(by by_cases h:x<y;rw [bF h,bJ (show ¬y<=x by omega)];rfl;rw [bJ h,bF (show y<=x by omega)];rfl);rw [e1];exact k _ _ .bool hv))
     | cases hv
     | cases hs
  ·cases hv
 ·rename_i x
  split at hv
  ·rename_i y
   cases r;cases q
   have e8:Nv x y=decide (x=y):=by
    rw [RT];by_cases e:x=y
    ·subst e;simp
    ·rw [bJ e];simpa using e
   cases op<;>first
    | (show oK _ K=true;rw [rI];show K (.bool _)=true;first | (rw [e8];exact k _ _ .bool hv) | (rw [aED];exact k _ _ .bool hv))
    | (exact aX hv id)
    | (obtain⟨hl,hv⟩:=hv
       show(KQ x fun n=>KQ y fun m=>match Nat.blt (n+m) 9223372036854775808 with | true=>FL x y fun l=>K (.string ⟨⟨l⟩⟩) | false=>false)=true;rw [nT,nT,show Nat.blt (x.length+y.length) 9223372036854775808=true from nJ hl];exact(nA x y _).trans (k _ _ .str hv))
  ·cases hv
 ·rename_i x
  split at hv
  ·rename_i y
   cases r;cases q;obtain⟨ht,hv⟩:=hv;unfold aFu at ht;split at ht
   ·rename_i hu
    have hb:(x==y)=decide (x=y):=by cases x<;>cases y<;>rfl
    cases op<;>first | cases hv | skip
    all_goals
     show pN P t (.bool x) (.bool y) _=true;unfold pN;simp only [hu,pH,rI,hb];exact k _ _ .bool hv
   ·cases ht
  ·cases hv
 ·exact aDV hG r q k hv
theorem aMv{op:UnOp}{a:V}{u:Value} (r:fI c S C a u){Kv:V->Prop}{K:Value->Bool} (k:∀v w,fI c S C v w->Kv v->K w=true) (hv:SO op a Kv):unK op u K=true:=by
 unfold SO at hv;split at hv
 ·split at hv
  ·cases r;rw [aLC];exact k _ _ .bool hv
  ·cases hv
 ·split at hv
  ·cases r
   show OV _ _ K=true;unfold OV;rw [nU];exact k _ _ .int hv
  ·cases hv
 ·split at hv
  ·cases r
   unfold unK;simp only;rw [nU];exact k _ _ .int hv
  ·cases hv
 ·cases hv
theorem aCe{P:Program}{big:Bool}{ts:List TypeId}{a b:V}{w u:Value} (r:fI c S C a w) (q:fI c S C b u){Kv:V->Prop}{K:VK} (k:∀v w,fI c S C v w->Kv v->K w S=true) (hv:Cq big a b Kv):oL P (match big with | true=> .max | false=> .min) ts [w,u] S K=true:=by
 cases r<;>try (cases hv;done)
 cases q<;>try (cases hv;done)
 rename_i j x j' y;have hw:=k _ _ .int hv;cases big with
 | true=>
  show ZY true [.int j' y] j x (fun v=>K v S)=true;show fX (ltI x y) (K (.int j y) S) (K (.int j x) S)=true;rw [WD];simp only [Int.max_def]at hw;by_cases h:x<y
  ·rw [aJ (by omega)]at hw;simp only [bF h];exact hw
  ·by_cases h2:x<=y
   ·rw [aJ h2]at hw
    have:x=y:=by omega
    subst this;simp only [bJ h];exact hw
   ·rw [aG h2]at hw
    simp only [bJ h];exact hw
 | false=>
  show ZY false [.int j' y] j x (fun v=>K v S)=true;show fX (ltI y x) (K (.int j y) S) (K (.int j x) S)=true;rw [WD];simp only [Int.min_def]at hw;by_cases h:y<x
  ·rw [aG (by omega)]at hw;simp only [bF h];exact hw
  ·rw [aJ (by omega)]at hw;simp only [bJ h];exact hw
inductive OR' (c:Cx) (S:St) (C:Nat->Prop):Option V->Option Value->Prop
 | none:OR' c S C none none
 | some {v:V} {w:Value} (h:fI c S C v w):OR' c S C (some v) (some w)
theorem Re{d:Nat}{o:Option V}{o':Option Value} (r:OR' c S C o o'){k:Nat->Prop}{K:Nat->Bool} (hk:∀n,k n->K n=true) (hv:Is d o k):aFX d o' K=true:=by
 cases r with
 | none=>exact hk _ hv
 | some r=>
  cases r<;>try (cases hv;done)
  rename_i j z;cases z with
  | ofNat n=>exact hk n hv
  | negSucc n=>cases hv
theorem CL{len cap:Nat}{lo hi mx:Option V}{Mv Ce Dm:Option Value} (r1:OR' c S C lo Mv) (r2:OR' c S C hi Ce) (r3:OR' c S C mx Dm){k:Nat->Nat->Nat->Prop}{K:Nat->Nat->Nat->Bool} (hk:∀l h m,l<=h->h<=m->m<=cap->k l h m->K l h m=true) (hv:LV len cap lo hi mx k):RM len cap Mv Ce Dm K=true:=by
 refine Re r3 (fun m hv=>Re r2 (fun h hv=>Re r1 (fun l hv=>?_) hv) hv) hv;obtain⟨h1,h2,h3,hv⟩:=hv;simp only [nJ h1,nJ h2,nJ h3];exact hk l h m h1 h2 h3 hv
theorem Jf{d:Nat}{o:Option V}{k k':Nat->Prop} (hk:∀n,k n->k' n) (h:Is d o k):Is d o k':=by
 unfold Is at*;split at h
 ·exact hk _ h
 ·exact hk _ h
 ·cases h
theorem aJ4{n c:Nat} (hc:n<=c){lo hi:Option V}{v:V}{k:Nat->Nat->Nat->Prop} (h:LV n n lo hi (some v) k):LV n c lo hi (some v) fun l h m=>m<=n/\k l h m:=by
 unfold LV at*
 have h1:Is c (some v) fun m=>Is n hi fun h=>Is 0 lo fun l=>l<=h/\h<=m/\m<=n/\k l h m:=by
  unfold Is at h ⊢;split at h
  ·rename_i e;cases e
  ·exact h
  ·cases h
 exact Jf (fun m=>Jf fun h=>Jf fun l ⟨a,b,d,e⟩=>⟨a,b,by omega,d,e⟩) h1
theorem aJ5 (s:VS P B Sb c h S){t el:TypeId}{size:Nat} (he:isSlice P t=some el) (hs:cN P el=some size){x:V}{w:Value} (r:fI c S C x w){lo hi mx:Option V}{Mv Ce Dm:Option Value} (r1:OR' c S C lo Mv) (r2:OR' c S C hi Ce) (r3:OR' c S C mx Dm){k:V->Prop}{K:Value->Bool} (hk:∀v w,fI c S C v w->k v->K w=true) (hv:LU el size x lo hi mx h k):uQ P t w Mv Ce Dm S K=true:=by
 have fW:∀{i n b o q cc:Nat},c.G i n=some (.slice (some ⟨b,0,some 0⟩) n n)->(match h i with
  | some (.fW _ t n')=>n'=n/\t=el/\LV q cc lo hi none fun l h m=>(l<m->k (.ID i n (o+l*size) (h-l) (m-l)))/\(m=l->k (.emp i n))
  | _=>False)->uQ P t (.slice (some ⟨b,o,some 0⟩) q cc) Mv Ce none S K=true:=by
  intro i n b o q cc e hq;split at hq
  ·rename_i vs t' n' ei
   obtain⟨rfl,rfl,hq⟩:=hq;obtain⟨b',us,olds,sz,a1,a2,a3,a4,a5,a6,a7⟩:=s.fW i vs t' n' ei;rw [e]at a1;injection a1 with a1;injection a1 with a1;injection a1 with a1;injection a1 with a1;subst a1;unfold uQ;simp only [he,hs];refine CL r1 r2 .none (fun l h m h1 h2 h3 hz=>?_) hq;obtain⟨hz,hz0⟩:=hz;simp only [bK];cases hw:Nat.beq m l with
   | true=>exact hk _ _ (.aJP e) (hz0 (dE hw))
   | false=>
    have h4:=VH hw;simp only;rw [LJ a4];simp only [hs];rw [show Nat.beq size size=true from Br size];exact hk _ _ (.ID e) (hz (by omega))
  ·cases hq
 cases r<;>try (cases hv;done)
 ·rename_i O cs n ht hd
  cases r3 with
  | none=>cases hv
  | some r3'=>
   have hv:LV n n lo hi (some _) fun l h m=>l<m/\h*size<=cs.length/\k (.list (.cut O (l*size) (h-l) (m-l)) ((cs.drop (l*size)).take ((h-l)*size)) (h-l)):=hv;cases hd with
   | nil=>
    unfold uQ;simp only [he,hs];exact CL r1 r2 (.some r3') (fun l h m h1 h2 h3 hq=>aX hq.1 (by omega)) hv
   | emp=>
    unfold uQ;simp only [he,hs];exact CL r1 r2 (.some r3') (fun l h m h1 h2 h3 hq=>aX hq.1 (by omega)) hv
   | @row b o _ cc sp vs e ck _ AO hb hC ho hl hn hr=>
    unfold uQ;simp only [he,hs];refine CL r1 r2 (.some r3') (fun l h m h1 h2 h3 hq=>?_) (aJ4 hn hv);obtain⟨hmn,hlm,vX,hq⟩:=hq;have hle:l*size<=cs.length:=zA (RG _ h1) vX;simp only [bK]
    have oJ:Nat.beq m l=false:=by
     cases hw:Nat.beq m l with
     | false=>rfl
     | true=>have:=dE hw;omega
    rw [oJ]
    have hw:K (.slice (some ⟨b,o+l*size,none⟩) (h-l) (m-l))=true:=by
     refine hk _ _ (.list (.cut ht) (.row rfl hb hC ho ?_ (by omega) fun j d v x1 x2=>?_)) hq
     ·rw [mP,IG]
      omega
     ·rw [pK]at x1
      split at x1
      ·rw [oT]at x1
       exact hr (l*size+j) d v x1 (by rw [<-uO];exact x2)
      ·cases x1
    match sp,AO with
    | none,_=>exact hw
    | some 0,_=>exact hw
 ·unfold uQ
  simp only [he,hs];refine CL r1 r2 r3 (fun l h m h1 h2 h3 hv=>?_) hv;simp only [bK];have:h-l=0/\m-l=0:=by omega
  rw [this.1,this.2];exact hk _ _ .nil hv
 ·rename_i i n e
  obtain⟨b,rfl⟩:=s.Gs _ _ _ e;cases r3 with
  | none=>exact fW e hv
  | some _=>cases hv
 ·rename_i i n o q cc b e
  cases r3 with
  | none=>exact fW e hv
  | some _=>cases hv
 ·rename_i i o n m b e
  unfold uQ;simp only [he,hs];refine CL r1 r2 r3 (fun l h m h1 h2 h3 hv=>?_) hv;simp only [bK];have hw:K (.slice (some ⟨b,if m=l then o else o+l*size,none⟩) (h-l) (m-l))=true:=hk _ _ (.own e) hv;cases hq:Nat.beq m l with
  | true=>rw [aJ (dE hq)]at hw;exact hw
  | false=>rw [aG (VH hq)]at hw;exact hw
theorem aDW (s:VS P B Sb c h S){t el:TypeId}{zero:List Value}{m:Nat} (he:isSlice P t=some el) (hs:cN P el=some (m+1)) (hz:wM P el=some zero) (hl:Nat.beq zero.length (m+1)=true) (hf:xH bW zero=true){x:V}{w:Value} (r:fI c S (dI B c h) x w){Kv:Hp->Prop}{K:VK} (k:∀h' S',EX (dI B c h) S S' (dI B c h')->VS P B Sb c h' S'->Kv h'->K (.tuple #[]) S'=true) (hv:Cw zero x h Kv):oL P .clear [t] [w] S K=true:=by
 have fin:∀{b o q cc:Nat} {sp:Option Nat},Sx sp=true->uP S b o (List.replicate (q+1) zero).flatten (fun S=>K (.tuple #[]) S)=true->oL P .clear [t] [.slice (some ⟨b,o,sp⟩) (q+1) cc] S K=true:=by
  intro b o q cc sp AO hw
  show(match isSlice P t with
   | some elem=>match cN P elem,wM P elem with
    | some size,some zero=>match(some (⟨b,o,sp⟩:Addr)),q+1 with
     | none,_=>K (.tuple #[]) S
     | some _,0=>K (.tuple #[]) S
     | some ⟨i,o,sp⟩,n+1=>match Sx sp,Nat.beq zero.length size,xH bW zero,size with
      | true,true,true,_+1=>aAL zero (n+1) fun cs=>uP S i o cs fun S=>K (.tuple #[]) S
      | _,_,_,_=>false
    | _,_=>false
   | none=>false)=true
  simp only [he,hs,hz,AO,hl,hf];rw [GU];exact hw
 have aJ6:∀{a:Addr} {cc:Nat},K (.tuple #[]) S=true->oL P .clear [t] [.slice (some a) 0 cc] S K=true:=by
  intro a cc hw
  show(match isSlice P t with
   | some elem=>match cN P elem,wM P elem with
    | some size,some zero=>K (.tuple #[]) S
    | _,_=>false
   | none=>false)=true
  simp only [he,hs,hz];exact hw
 have zs:∀{q:Nat} {z:List V},LO zero=some z->lN c S (dI B c h) (List.replicate (q+1) z).flatten (List.replicate (q+1) zero).flatten:=fun hz=>(YX hz).flatten _
 have aAo:∀{p:List V->Prop},rL zero p->∃z,LO zero=some z/\p z:=by
  intro p hp;unfold rL at hp;split at hp
  ·rename_i z e;exact⟨z,e,hp⟩
  ·cases hp
 have here:=fun(hv:Kv h)=>k h S (.refl _ S) s hv;unfold Cw at hv;split at hv
 ·cases r
  show(match isSlice P t with
   | some elem=>match cN P elem,wM P elem with
    | some size,some zero=>K (.tuple #[]) S
    | _,_=>false
   | none=>false)=true
  simp only [he,hs,hz];exact here hv
 ·cases r with
  | own e=>
   split at hv
   ·exact aJ6 (here hv)
   ·obtain⟨z,Hy,hq⟩:=aAo hv
    split at hq
    ·rename_i vs t' e1
     exact fin rfl (Da s e1 e (zs Hy) hq.1 k hq.2)
    ·cases hq
 ·cases r with
  | acc e=>
   obtain⟨b,rfl⟩:=s.Gs _ _ _ e;split at hv
   ·exact aJ6 (here hv)
   ·obtain⟨z,Hy,hq⟩:=aAo hv
    split at hq
    ·rename_i vs t' m' e1
     obtain⟨rfl,hq⟩:=hq;exact fin rfl (SM s e1 e (zs Hy) (by omega) k hq.2)
    ·cases hq
 ·cases r with
  | ID e=>
   split at hv
   ·exact aJ6 (here hv)
   ·obtain⟨z,Hy,hq⟩:=aAo hv
    split at hq
    ·rename_i vs t' m' e1
     obtain⟨rfl,hq⟩:=hq;exact fin rfl (SM s e1 e (zs Hy) hq.1 k hq.2)
    ·cases hq
 ·cases hv
theorem aG3 (s:VS P B Sb c h S){ts:List TypeId}{dT el:TypeId}{m:Nat} (he:isSlice P dT=some el) (hs:cN P el=some (m+1)){y x:V}{w u:Value} (r:fI c S (dI B c h) y w) (q:fI c S (dI B c h) x u){Kv:KV}{K:VK} (k:KR P B Sb c h S Kv K) (hv:Wh (m+1) y x h Kv):Ux P (dT::ts) w u S K=true:=by
 unfold Wh at hv;obtain⟨n,vs,ws,hv,hr,hl,hlen,aBl⟩:=aCc s (Nat.succ_pos m) q hv;cases y with
 | own i o d cc=>
  cases r with
  | @own _ _ _ _ b hZ=>
  obtain⟨hn,hv⟩:=hv;unfold Ux;simp only [he,hs];have aF0:Nat.min n d=n:=Nat.min_eq_left hn;rw [hlen,bK,aF0];cases n with
  | zero=>exact k.here s .int hv
  | succ n=>
   obtain⟨h1,hv⟩:=hv;have hS:=aBl h1;show OW S (m+1) (n+1) u _=true;rw [hS.first _ (by omega)];have ho:xH kR ws=true:=by rw [mY];exact List.all_eq_true.2 hS.one
   simp only [show Sx none=true from rfl,ho];split at hv
   ·rename_i us t e
    refine Da s e hZ hr hv.1 (fun h' S' f s' PU=>?_) hv.2;exact k c h' S' _ _ (.refl c) f s' .int PU
   ·cases hv
 | _=>cases hv
theorem aJ7{t el:TypeId}{len size:Nat} (he:P.underlying t=some (.array len el)) (hs:cN P el=some size){x:V}{w:Value} (r:fI c S C x w){lo hi mx:Option V}{Mv Ce Dm:Option Value} (r1:OR' c S C lo Mv) (r2:OR' c S C hi Ce) (r3:OR' c S C mx Dm){k:V->Prop}{K:Value->Bool} (hk:∀v w,fI c S C v w->k v->K w=true) (hv:aQW len size x lo hi mx k):uQ P t w Mv Ce Dm S K=true:=by
 cases r<;>try (cases hv;done)
 rename_i i o b e;unfold uQ;simp only [he,hs];refine CL r1 r2 r3 (fun l h m h1 h2 h3 hv=>?_) hv;simp only [bK];have hw:K (.slice (some ⟨b,if m=l then o else o+l*size,none⟩) (h-l) (m-l))=true:=hk _ _ (.own e) hv;cases hq:Nat.beq m l with
 | true=>rw [aJ (dE hq)]at hw;exact hw
 | false=>rw [aG (VH hq)]at hw;exact hw
theorem aJ8{t:TypeId} (he:P.underlying t=some .string){x:V}{w:Value} (r:fI c S C x w){lo hi:Option V}{Mv Ce:Option Value} (r1:OR' c S C lo Mv) (r2:OR' c S C hi Ce){k:V->Prop}{K:Value->Bool} (hk:∀v w,fI c S C v w->k v->K w=true) (hv:aQV x lo hi k):uQ P t w Mv Ce none S K=true:=by
 cases r<;>try (cases hv;done)
 rename_i s;unfold uQ;simp only [he];rw [nT];refine CL r1 r2 .none (fun l h m h1 h2 h3 hv=>?_) hv;rw [HF,aJ (by omega),DG,aJ (by simp;omega)];exact hk _ _ .str hv
theorem aMw (s:VS P B Sb c h S){t el:TypeId}{info:TypeInfo}{zero:List Value}{n:Nat} (he:isSlice P t=some el) (hi:P.info? el=some info) (hz:wM P el=some zero) (hl:Nat.beq zero.length info.size=true) (hn:info.size=n+1) (hf:xH bW zero=true){x y:V}{w u:Value} (r:fI c S C x w) (q:fI c S C y u){Kv:KV}{K:VK} (k:KR P B Sb c h S Kv K) (hv:vMk el info.bytes zero x y h Kv):xJ P t w u S K=true:=by
 unfold vMk at hv;cases r<;>try (cases hv;done)
 rename_i j z;cases z with
 | negSucc n=>cases hv
 | ofNat l=>
 cases q<;>try (cases hv;done)
 rename_i j' z;cases z with
 | negSucc n=>cases hv
 | ofNat cc=>
  obtain⟨h1,h2,h3,hv⟩:=hv;unfold rL at hv;split at hv
  ·rename_i zs e
   rw [hn]at hl;unfold xJ;simp only [he,hi,hz,nJ h1,nJ h2,nJ h3,nJ (show cc<=1099511627776 by omega),hl,hn,hf];rw [GU];obtain⟨c',h',i,a1,a2,a3,a4,a5⟩:=Gp s ((YX e).flatten cc) hv;rw [jB];exact k c' h' _ _ _ a1 a2 a3 (.own a4) a5
  ·cases hv
end
section
variable{P:Program}{B:Nat->Prop}{Sb:St}{c c' d:Cx}{h h':Hp}{S S':St}{C C':Nat->Prop}
theorem aCm (k:IntKind):FM k k=true:=by cases k<;>rfl
theorem aKi{t:TypeId}{ct:CT} (h:Jb P t=some ct):sA P t=true:=by
 unfold Jb at h;unfold sA;split at h<;>simp_all
theorem aNz{t:TypeId}{ct:CT} (hc:Jb P t=some ct){a b:V}{a' b':Value} (ha:fI c S C a a') (hb:fI c S C b b') (oa:aGR ct a) (ob:aGR ct b) (k:Bool->Bool):∃e:Bool,(e=true↔a=b)/\wN P t a' b' k=k e:=by
 unfold Jb at hc;split at hc
 ·rename_i ik hu
  injection hc with hc;subst hc;cases ha<;>try (cases oa;done)
  rename_i j x;cases hb<;>try (cases ob;done)
  rename_i j' y;have oa:j=ik:=oa;have ob:j'=ik:=ob;subst oa ob;refine⟨eqI x y,?_,?_⟩
  ·rw [RR]
   constructor
   ·intro h;rw [beq_iff_eq.1 h]
   ·intro h;injection h with _ h;subst h;simp
  ·unfold wN
   simp only [hu,aCm,pH]
 ·rename_i hu
  injection hc with hc;subst hc;cases ha<;>try (cases oa;done)
  rename_i x;cases hb<;>try (cases ob;done)
  rename_i y;refine⟨Nv x y,?_,?_⟩
  ·rw [RT]
   constructor
   ·intro h;rw [beq_iff_eq.1 h]
   ·intro h;injection h with h;subst h;simp
  ·unfold wN
   simp only [hu,pH]
 ·rename_i hu
  injection hc with hc;subst hc;cases ha<;>try (cases oa;done)
  rename_i x;cases hb<;>try (cases ob;done)
  rename_i y;refine⟨x==y,?_,?_⟩
  ·constructor
   ·intro h;rw [beq_iff_eq.1 h]
   ·intro h;injection h with h;subst h;simp
  ·unfold wN
   simp only [hu,pH]
 ·cases hc
theorem aKj{k:Bool->Bool}:∀{fs:List Field} {l:List CT} {a b:List V} {a' b':List Value},OD P fs=some l->lN c S C a a'->lN c S C b b'->Kq l a->Kq l b->∃e:Bool,(e=true↔a=b)/\PQ P fs a' b' k=k e:=by
 intro fs;induction fs with
 | nil=>
  intro l a b a' b' hl ha hb oa ob;simp [OD]at hl;subst hl;cases a with
  | cons=>cases oa
  | nil=>cases b with
   | cons=>cases ob
   | nil=>exact⟨true,by simp,rfl⟩
 | cons f fs ih=>
  intro l a b a' b' hl ha hb oa ob;unfold OD at hl;split at hl
  ·rename_i ct hct
   split at hl
   ·rename_i l' Sn
    injection hl with hl;subst hl;cases a with
    | nil=>cases oa
    | cons x a=>cases b with
     | nil=>cases ob
     | cons y b=>
      obtain⟨x',a'',rfl,rx,ra⟩:=ha.cons_inv;obtain⟨y',b'',rfl,ry,rb⟩:=hb.cons_inv;obtain⟨e2,g3,g4⟩:=ih Sn ra rb oa.2 ob.2;obtain⟨e1,g1,g2⟩:=aNz hct rx ry oa.1 ob.1 (fun e=>match e with | true=>PQ P fs a'' b'' k | false=>k false);refine⟨e1&&e2,?_,?_⟩
      ·rw [dR,g1,g3];simp
      ·show wN P f.type x' y' (fun e=>match e with | true=>PQ P fs a'' b'' k | false=>k false)=_
       rw [g2];cases e1 with
       | true=>exact g4
       | false=>rfl
   ·cases hl
  ·cases hl
theorem aQ4{t:TypeId}{sh:KSh} (hs:Qs P t=some sh){a b:V}{a' b':Value} (ha:fI c S C a a') (hb:fI c S C b b') (oa:SW sh a) (ob:SW sh b) (k:Bool->Bool):∃e:Bool,(e=true↔a=b)/\II P t a' b' k=k e:=by
 unfold Qs at hs;split at hs
 ·rename_i ct hct
  injection hs with hs;subst hs;obtain⟨e,g1,g2⟩:=aNz hct ha hb oa ob k;refine⟨e,g1,?_⟩;rw [<-g2];unfold II;split
  ·rename_i xs ys
   cases ha<;>cases ct<;>cases oa
  ·rfl
 ·split at hs
  ·rename_i fs hfs
   split at hs
   ·rename_i l hl
    injection hs with hs;subst hs;cases ha<;>try (cases oa;done)
    cases hb<;>try (cases ob;done)
    rename_i xs xs' la rxa ys ys' lb ryb;obtain⟨e,g1,g2⟩:=aKj (k:=k) hl ⟨la,rxa⟩ ⟨lb,ryb⟩ oa ob;refine⟨e,?_,?_⟩
    ·rw [g1];simp
    ·show pN P t (.agg ⟨xs'⟩) (.agg ⟨ys'⟩) k=_
     unfold pN;simp only [hfs];exact g2
   ·cases hs
  ·cases hs
theorem aFD{ct:CT}{v:V}{w:Value} (r:fI c S C v w) (o:aGR ct v):bW w=true:=by
 cases r<;>first | rfl | (cases ct<;>cases o)
theorem aKk:∀{l:List CT} {a:List V} {a':List Value},lN c S C a a'->Kq l a->a'.all bW=true/\a'.length=l.length:=by
 intro l;induction l with
 | nil=>intro a a' r o;cases a with | cons=>cases o | nil=>rw [r.rK];exact⟨rfl,rfl⟩
 | cons ct l ih=>
  intro a a' r o;cases a with
  | nil=>cases o
  | cons x a=>
   obtain⟨x',a'',rfl,rx,ra⟩:=r.cons_inv;obtain⟨h1,h2⟩:=ih ra o.2;exact⟨by simp [aFD rx o.1,h1],by simp [h2]⟩
theorem aCn:∀{fs:List Field} {l:List CT},OD P fs=some l->fs.length=l.length:=by
 intro fs;induction fs with
 | nil=>intro l h;simp [OD]at h;subst h;rfl
 | cons f fs ih=>
  intro l h;unfold OD at h;split at h
  ·split at h
   ·rename_i hl;injection h with h;subst h;simp [ih hl]
   ·cases h
  ·cases h
theorem aCo{t:TypeId}{sh:KSh} (hs:Qs P t=some sh){a:V}{a':Value} (ha:fI c S C a a') (oa:SW sh a):TK P t a'=true:=by
 unfold Qs at hs;split at hs
 ·rename_i ct hct
  injection hs with hs;subst hs;have hf:=aFD ha oa;have h1:kM a'=true:=by cases a'<;>first | exact hf | (simp [bW]at hf)
  unfold TK;simp only [h1,aKi hct]
 ·rename_i hn
  split at hs
  ·rename_i fs hfs
   split at hs
   ·rename_i l hl
    injection hs with hs;subst hs;cases ha<;>try (cases oa;done)
    rename_i xs xs' la rxa;obtain⟨h1,h2⟩:=aKk ⟨la,rxa⟩ oa;have h1:kM (.agg ⟨xs'⟩)=true:=h1;unfold TK;have h3:Nat.ble fs.length xs'.length=true:=nJ (by rw [aCn hl,h2];exact bR _);simp only [h1];cases sA P t with
    | true=>rfl
    | false=>simp only [hfs,h3]
   ·cases hs
  ·cases hs
theorem bytes_beq (l:List UInt8):((⟨⟨l⟩⟩:ByteArray)==⟨⟨l⟩⟩)=true:=by
 show ByteArray.beq ⟨⟨l⟩⟩ ⟨⟨l⟩⟩=true;unfold ByteArray.beq;simp
theorem aFE{n:Nat}{ct:CT}{v:V}{w:Value} (r:fI c S C v w) (o:aGR ct v):Instr.sameBits n w w=true:=by
 cases r<;>first | (cases ct<;>cases o;done) | (cases n<;>first | exact bytes_beq _ | (simp [Instr.sameBits];done))
theorem aKl{n:Nat}:∀{l:List CT} {a:List V} {a':List Value},lN c S C a a'->Kq l a->((a'.zip a').all fun(x,y)=>Instr.sameBits n x y)=true:=by
 intro l;induction l with
 | nil=>intro a a' r o;cases a with | cons=>cases o | nil=>rw [r.rK];rfl
 | cons ct l ih=>
  intro a a' r o;cases a with
  | nil=>cases o
  | cons x a=>
   obtain⟨x',a'',rfl,rx,ra⟩:=r.cons_inv;simp [aFE rx o.1];have:=ih ra o.2;simpa using this
theorem aMz{sh:KSh}{a:V}{a':Value} (ha:fI c S C a a') (oa:SW sh a) (n:Nat):Instr.sameBits (n+1) a' a'=true:=by
 cases sh with
 | one ct=>exact aFE ha oa
 | many l=>
  cases ha<;>try (cases oa;done)
  rename_i xs xs' la rxa;have:=aKl (n:=n) (⟨la,rxa⟩:lN c S C xs xs') oa;simp only [Instr.sameBits];simpa using this
def EsR (c:Cx) (S:St) (C:Nat->Prop) (es:List (V×V)) (jO:List MapEntry):Prop:=es.length=jO.length/\∀(k:Nat) (x:V×V) (y:MapEntry),es[k]? =some x->jO[k]? =some y->fI c S C x.1 y.key/\fI c S C x.2 y.val
theorem EsR.tail{x:V×V}{y:MapEntry}{es:List (V×V)}{jO:List MapEntry} (r:EsR c S C (x::es) (y::jO)):EsR c S C es jO:=⟨by simpa using r.1,fun k a b p q=>r.2 (k+1) a b (by simpa using p) (by simpa using q)⟩
theorem aCp{t:TypeId}{sh:KSh} (hs:Qs P t=some sh){a:V}{a':Value} (ha:fI c S C a a') (oa:SW sh a) (k:Option (Nat×MapEntry)->Bool):∀{es:List (V×V)} {jO:List MapEntry} (i:Nat),EsR c S C es jO->(∀e∈es,SW sh e.1)->
 (XR es a=none/\(∀x,PF es a x=es++[(a,x)])/\gW (β:=Nat->Bool) (fun _=>k none) (fun e _ ih i=>II P t a' e.key fun b=>match b with | true=>k (some (i,e)) | false=>bV (Nat.succ i) ih) jO i=k none)\/
 ∃j v e',XR es a=some v/\jO[j]? =some e'/\e'.key=a'/\fI c S C v e'.val/\(∀x,PF es a x=es.set j (a,x))/\gW (β:=Nat->Bool) (fun _=>k none) (fun e _ ih i=>II P t a' e.key fun b=>match b with | true=>k (some (i,e)) | false=>bV (Nat.succ i) ih) jO i=k (some (i+j,e')):=by
 intro es;induction es with
 | nil=>
  intro jO i r ho;have:jO=[]:=rY (by simpa using r.1.symm);subst this;exact .inl ⟨rfl,fun x=>rfl,rfl⟩
 | cons x es ih=>
  intro jO i r ho;cases jO with
  | nil=>have:=r.1;simp at this
  | cons y jO=>
   have r0:=r.2 0 x y rfl rfl;rw [bU];obtain⟨e,g1,g2⟩:=aQ4 hs ha r0.1 oa (ho x (.head _)) (fun b=>match b with | true=>k (some (i,y)) | false=>bV (Nat.succ i) (gW (β:=Nat->Bool) (fun _=>k none) (fun e _ ih i=>II P t a' e.key fun b=>match b with | true=>k (some (i,e)) | false=>bV (Nat.succ i) ih) jO));rw [g2];by_cases he:a=x.1
   ·have:e=true:=g1.2 he
    subst this;refine .inr ⟨0,x.2,y,by simp [XR,he],rfl,?_,r0.2,fun z=>by simp [PF,he],rfl⟩;have:=r0.1;rw [<-he]at this;exact this.fn ha
   ·have:e=false:=by cases e with | false=>rfl | true=>exact aX (g1.1 rfl) he
    subst this;rw [bK];rcases ih (i+1) r.tail (fun e he=>ho e (.tail _ he))with ⟨q1,q2,q3⟩ | ⟨j,v,e',q1,q2,q3,q4,q5,q6⟩
    ·exact .inl ⟨by simp [XR,he,q1],fun z=>by simp [PF,he,q2 z],q3⟩
    ·refine .inr ⟨j+1,v,e',by simp [XR,he,q1],by simpa using q2,q3,q4,fun z=>by simp [PF,he,q5 z],?_⟩
     rw [show i+(j+1)=i+1+j by omega];exact q6
theorem VS.map (s:VS P B Sb c h S){i:Nat}{es:List (V×V)} (e:h i=some (.map es)):∃b jO ck,c.Z i=some b/\S.obj b=some (.map jO ck)/\EsR c S (dI B c h) es jO:=by
 obtain⟨b,a,a1,a2,a3,a4,jO,ck,rfl,_,a5,a6⟩:=s.ob i _ e rfl;exact⟨b,jO,ck,a1,a4,a5,a6⟩
theorem VS.aQ5 (s:VS P B Sb c h S){i:Nat}{es:List (V×V)} (e:h i=some (.map es)):∃b jO ck,c.Z i=some b/\S.obj b=some (.map jO ck)/\EsR c S (dI B c h) es jO/\ME jO ck:=by
 obtain⟨b,a,a1,a2,a3,a4,jO,ck,rfl,a7,a5,a6⟩:=s.ob i _ e rfl;exact⟨b,jO,ck,a1,a4,⟨a5,a6⟩,a7⟩
theorem aD5{b:Nat}{es:List MapEntry}{ck:Nat} (e:S.obj b=some (.map es ck)) (k:Option Nat->List MapEntry->Nat->Bool):Xb S (.map (some b)) k=k (some b) es ck:=by
 show rE S.h b _=_;rw [mZ];have e:S.h.get b=some (.map es ck):=e;rw [e]
theorem aG6 (s:VS P B Sb c h S){t kt et:TypeId}{sh:KSh}{z:Value}{zv:V}{ok:Bool} (ht:IJ P t=some (kt,et)) (hs:Qs P kt=some sh) (hz:zeroV P et=some z) (hzv:ofC z=some zv){m a:V}{w u:Value} (r:fI c S (dI B c h) m w) (q:fI c S (dI B c h) a u){Kv:KV}{K:VK} (k:KR P B Sb c h S Kv K) (hv:Qt sh zv ok m a h Kv):YK P t w u ok S K=true:=by
 unfold Qt at hv;split at hv
 ·rename_i i
  cases r with
  | yM hZ=>
   split at hv
   ·rename_i es e
    obtain⟨oa,ho,hv1,hv2⟩:=hv;obtain⟨b,jO,ck,a1,a2,a3⟩:=s.map e;rw [hZ]at a1;injection a1 with a1;subst a1;obtain⟨hf,rz⟩:=aJU (c:=c) (S:=S) (C:=dI B c h) hzv;unfold YK;simp only [ht,hz,aCo hs q oa];rw [aD5 a2];unfold Jo
    rcases aCp hs q oa (fun r=>match(generalizing:=false) r with
     | some (_,e)=>match(generalizing:=false) ok with | true=>K (.tuple ⟨[e.val,.bool true]⟩) S | false=>K e.val S
     | none=>match(generalizing:=false) kM z with
      | true=>match(generalizing:=false) ok with | true=>K (.tuple ⟨[z,.bool false]⟩) S | false=>K z S
      | false=>false) 0 a3 ho with ⟨q1,_,q3⟩ | ⟨j,v,e',q1,q2,q3,q4,_,q6⟩
    ·refine q3.trans ?_
     simp only [hf];cases ok with
     | true=>exact k.here s (.tuple (lN.cons rz (.cons .bool .nil)).len (lN.cons rz (.cons .bool .nil)).rd) (hv2 q1)
     | false=>exact k.here s rz (hv2 q1)
    ·refine q6.trans ?_
     cases ok with
     | true=>exact k.here s (.tuple (lN.cons q4 (.cons .bool .nil)).len (lN.cons q4 (.cons .bool .nil)).rd) (hv1 v q1)
     | false=>exact k.here s q4 (hv1 v q1)
   ·cases hv
 ·cases hv
theorem aDY (s:VS P B Sb c h S){t kt et:TypeId}{sh:KSh} (ht:IJ P t=some (kt,et)) (hs:Qs P kt=some sh){m a x:V}{w u y:Value} (r:fI c S (dI B c h) m w) (q:fI c S (dI B c h) a u) (rx:fI c S (dI B c h) x y){Kv:KV}{K:VK} (k:KR P B Sb c h S Kv K) (hv:zT sh m a x h fun h=>Kv Gh h):FP P t w u y S (fun S=>K undef S)=true:=by
 unfold zT at hv;split at hv
 ·rename_i i
  cases r with
  | yM hZ=>
   split at hv
   ·rename_i es e
    obtain⟨oa,ho,hv⟩:=hv;obtain⟨b,jO,ck,a1,a2,a3,a8⟩:=s.aQ5 e;have a1':=a1;rw [hZ]at a1;injection a1 with a1;subst a1;unfold FP;simp only [ht,aCo hs q oa];rw [aD5 a2];simp only;unfold Jo
    have fin:∀es2 ck2,ME es2 ck2->EsR c S (dI B c h) (PF es a x) es2->K undef (S.set _ (.map es2 ck2))=true:=fun es2 ck2 b2 r2=>by
     obtain⟨s1,f1⟩:=s.Wk e rfl hZ (o:= .map (PF es a x)) rfl (ao:= .map es2 ck2) fun S' C' f=>⟨es2,ck2,rfl,b2,r2.1,fun k x y p q=>⟨(r2.2 k x y p q).1.mono (.refl c) f,(r2.2 k x y p q).2.mono (.refl c) f⟩⟩;exact k c _ _ Gh undef (.refl c) f1 s1 (.tuple (a':=[]) rfl fun k v w e=>by simp at e) hv
    rcases aCp hs q oa (fun f=>match f with
     | some (i,e)=>match Instr.sameBits 10000 e.key u with
      | true=>aEq {e with val:=y} jO i fun es=>sR S _ (.map es ck) fun S=>K undef S
      | false=>false
     | none=>FL jO [{key:=u,val:=y,born:=ck}] fun es=>bV (Nat.succ ck) fun c=>sR S _ (.map es c) fun S=>K undef S) 0 a3 ho with ⟨q1,q2,q3⟩ | ⟨j,v,e',q1,q2,q3,q4,q5,q6⟩
    ·refine q3.trans ?_
     rw [nA,bK,gS];refine fin _ _ (a8.app rfl) ?_;rw [q2 x];refine⟨by simp [a3.1],fun k p p' e1 e2=>?_⟩;by_cases hk:k<es.length
     ·rw [gI hk]at e1
      rw [gI (by rw [<-a3.1];exact hk)]at e2;exact a3.2 k p p' e1 e2
     ·rw [kI (by omega)]at e1
      rw [kI (by rw [<-a3.1];omega),<-a3.1]at e2;cases hq:k-es.length with
      | zero=>
       rw [hq]at e1 e2;simp at e1 e2;subst e1 e2;exact⟨q,rx⟩
      | succ n=>rw [hq]at e1;simp at e1
    ·refine q6.trans ?_
     simp only [eG,q3];rw [aMz q oa 9999];simp only;rw [Oh,gS];refine fin _ _ (a8.set q2 rfl) ?_;rw [q5 x];refine⟨by simp [a3.1],fun k p p' e1 e2=>?_⟩;by_cases hk:k=j
     ·subst hk
      rw [Nn,aJ rfl]at e1 e2;split at e1
      ·rename_i hlt
       rw [aJ (by rw [<-a3.1];exact hlt)]at e2;injection e1 with e1;injection e2 with e2;subst e1 e2;exact⟨q,rx⟩
      ·cases e1
     ·rw [IE (aO hk)]at e1 e2
      exact a3.2 k p p' e1 e2
   ·cases hv
 ·cases hv
theorem Ks (s:VS P B Sb c h S){Kv:KV}{K:VK} (k:KR P B Sb c h S Kv K) (hv:Gk h Kv):zB S (.map [] 0) (fun i S=>K (.map (some i)) S)=true:=by
 obtain⟨i,e1,e2,e3⟩:=s.fresh;obtain⟨s1,l1,f1,i1⟩:=s.aFy e1 e2 e3 (o:= .map []) (ao:= .map [] 0) rfl fun _ _ _ _ _=>⟨[],0,rfl,⟨.nil,fun e he=>by cases he⟩,rfl,fun k x y p=>by simp at p⟩;rw [jB];exact k _ _ _ _ _ l1 f1 s1 (.yM i1) (hv i e1)
theorem aAp (s:VS P B Sb c h S){r:V}{w:Value} (rr:fI c S C r w){t:TypeId}{kv:TypeId×TypeId} (ht:IJ P t=some kv){Kv:KV}{K:VK} (k:KR P B Sb c h S Kv K) (hv:Gl r h Kv):
 (match(generalizing:=false) w,IJ P t with | .int _ _,some _=>zB S (.map [] 0) (fun i S=>K (.map (some i)) S) | _,_=>false)=true:=by
 unfold Gl at hv;split at hv
 ·cases rr
  rw [ht];exact Ks s k hv
 ·cases hv
theorem aG5 (s:VS P B Sb c h S){t kt et:TypeId} (hu:P.underlying t=some (.map kt et)){x:V}{w:Value} (r:fI c S (dI B c h) x w){Kv:KV}{K:VK} (k:KR P B Sb c h S Kv K) (hv:Qu x h Kv):oL P .len [t] [w] S K=true:=by
 unfold Qu at hv;split at hv
 ·rename_i i
  cases r with
  | yM hZ=>
   split at hv
   ·rename_i es e
    obtain⟨b,jO,ck,a1,a2,a3⟩:=s.map e;rw [hZ]at a1;injection a1 with a1;subst a1;have hm:IJ P t=some (kt,et):=by unfold IJ;rw [hu]
    simp only [oL,hm];rw [aD5 a2,nT,<-a3.1];exact k.here s .int hv
   ·cases hv
 ·cases hv
theorem aCh (s:VS P B Sb c h S){t:TypeId}{kv:TypeId×TypeId} (ht:IJ P t=some kv){x:V}{w:Value} (r:fI c S (dI B c h) x w){Kv:KV}{K:VK} (k:KR P B Sb c h S Kv K) (hv:HA x h Kv):Do P t w S K=true:=by
 unfold HA at hv;split at hv
 ·rename_i m
  cases r with
  | yM hZ=>
   split at hv
   ·rename_i es e
    obtain⟨b,jO,ck,a1,a2,a3,a4⟩:=s.aQ5 e;rw [hZ]at a1;injection a1 with a1;subst a1;have Dl:(jO.map (·.born)).length=es.length:=by rw [lR];exact a3.1.symm
    have NH:∀x∈jO.map (·.born),x<ck:=fun x hx=>by
     obtain⟨y,hy,rfl⟩:=List.mem_map.1 hx;exact a4.2 y hy
    obtain⟨s1,hL⟩:=s.aQ3 e rfl hZ (o:= .wD es (jO.map (·.born)) ck) rfl fun a C' ha q=>by
     rw [a2]at ha;injection ha with ha;subst ha;obtain⟨es2,ck2,q1,q2,q3,q4⟩:=q;injection q1 with q1 q5;subst q1 q5;exact⟨_,rfl,rfl,q2,q3,q4⟩
    obtain⟨i,e1,e2,e3⟩:=s1.fresh;obtain⟨s2,l2,f2,i2⟩:=s1.aFy e1 e2 e3 (o:= .iter m ck [] ck) (ao:= .iter (some _) ck [] ck) rfl fun d _ _ ld _=>⟨_,rfl,ld.Z _ _ hZ⟩;unfold Do;rw [ht];show rE S.h _ _=true;have a2:S.h.get _=some (.map jO ck):=a2;rw [mZ,a2];show zB S (.iter (some _) ck [] ck) (fun i S=>K (.pointer (some ⟨i,0,none⟩)) S)=true;rw [jB];rw [hL]at f2;exact k _ _ _ _ _ l2 f2 s2 (.ptr i2) (hv _ ck Dl a4.1 NH i e1)
   ·cases hv
 ·cases hv
theorem VS.iter (s:VS P B Sb c h S){i m since last:Nat}{seen:List Nat} (e:h i=some (.iter m since seen last)):∃b r,c.Z i=some b/\S.obj b=some (.iter (some r) since seen last)/\c.Z m=some r:=by
 obtain⟨b,a,a1,a2,a3,a4,r,rfl,a5⟩:=s.ob i _ e rfl;exact⟨b,r,a1,a4,a5⟩
theorem VS.wD (s:VS P B Sb c h S){i ck:Nat}{es:List (V×V)}{bs:List Nat} (e:h i=some (.wD es bs ck)):∃b jO,c.Z i=some b/\S.obj b=some (.map jO ck)/\jO.map (·.born)=bs/\ME jO ck/\EsR c S (dI B c h) es jO:=by
 obtain⟨b,a,a1,a2,a3,a4,jO,rfl,a7,a8,a5,a6⟩:=s.ob i _ e rfl;exact⟨b,jO,a1,a4,a7,a8,a5,a6⟩
theorem aDZ (s:VS P B Sb c h S){x:V}{w:Value} (r:fI c S (dI B c h) x w){Kv:KV}{K:VK} (k:KR P B Sb c h S Kv K) (hv:MA x h Kv):aEt w S K=true:=by
 unfold MA at hv;split at hv
 ·rename_i i
  cases r with
  | ptr hZ=>
   rename_i bb;split at hv
   ·rename_i m since seen last ei
    split at hv
    ·rename_i es bs ck em
     obtain⟨hbs,XC,hv1,hv2⟩:=hv;obtain⟨b,rr,a1,a2,a3⟩:=s.iter ei;rw [hZ]at a1;injection a1 with a1;subst a1;obtain⟨b2,jO,c1,c2,c3,c4,c5⟩:=s.wD em;rw [a3]at c1;injection c1 with c1;subst c1;show rE S.h _ _=true;have a2':S.h.get _=some (.iter (some rr) since seen last):=a2;have c2':S.h.get rr=some (.map jO ck):=c2;rw [mZ,a2'];show rE S.h rr _=true;rw [mZ,c2']
     have h1:xH (fun e:MapEntry=>Nat.blt e.born since) jO=true:=by
      rw [mY,KO];intro e he;exact nJ (hbs _ (by rw [<-c3];exact List.mem_map.2 ⟨e,he,rfl⟩))
     simp only [h1,nJ XC];rw [aAU]
     have rH:(jO.filter (fun e=> !seen.contains e.born)).all (fun e=>FL seen [e.born] fun seen=>sR S bb (.iter (some rr) since seen ck) fun S=>K (.tuple ⟨[.bool true,e.key,e.val]⟩) S)=true:=by
      rw [KO];intro e he;obtain⟨he1,he2⟩:=List.mem_filter.1 he;obtain⟨j,hj,rfl⟩:=Bj he1;have Tt:j<es.length:=by rw [c5.1];exact hj
      have hns:¬jO[j].born∈seen:=by simpa using he2
      rw [nA,gS];obtain⟨s1,f1⟩:=s.Wk ei rfl hZ (o:= .iter m since (seen++[jO[j].born]) ck) rfl (ao:= .iter (some rr) since (seen++[jO[j].born]) ck) fun S' C' f=>⟨rr,rfl,a3⟩;obtain⟨q1,q2⟩:=c5.2 j _ _ (aQ Tt) (aQ hj);refine k c _ _ _ _ (.refl c) f1 s1 ?_ (hv2 j es[j] jO[j].born (aQ Tt) (by rw [<-c3,dO,aQ hj];rfl) hns);have rl:lN c (S.set bb (.iter (some rr) since (seen++[jO[j].born]) ck)) (dI B c (aK h i (.iter m since (seen++[jO[j].born]) ck))) [.bool true,es[j].1,es[j].2] [.bool true,jO[j].key,jO[j].val]:= .cons .bool (.cons (q1.mono (.refl c) f1) (.cons (q2.mono (.refl c) f1) .nil));exact .tuple rl.len rl.rd
     cases hf:jO.filter (fun e=> !seen.contains e.born)with
     | nil=>
      have So:∀b∈bs,b∈seen:=by
       intro b hb;rw [<-c3]at hb;obtain⟨e,he,rfl⟩:=List.mem_map.1 hb;by_cases hc:e.born∈seen
       ·exact hc
       ·have:e∈jO.filter (fun e=> !seen.contains e.born):=List.mem_filter.2 ⟨he,by simpa using hc⟩
        rw [hf]at this;cases this
      obtain⟨s1,hL⟩:=s.aQ3 em rfl a3 (o:= .map es) rfl fun a C' ha q=>by
       obtain⟨es2,q1,q2,q3,q4,q5⟩:=q;exact⟨es2,ck,q1,q3,q4,q5⟩
      refine k c _ _ _ _ (.refl c) (by rw [hL];exact .refl _ _) s1 ?_ (hv1 So);have rl:lN c S (dI B c (aK h m (.map es))) [.bool false] [.bool false]:= .cons .bool .nil;exact .tuple rl.len rl.rd
     | cons e t=>
      rw [hf]at rH;simp only [mY];exact rH
    ·cases hv
   ·cases hv
 ·cases hv
theorem aKm{l:List Nat}{b:Nat}{k:Nat->Bool} (h:l.getLast?=some b):aAO l k=k b:=by
 induction l with
 | nil=>cases h
 | cons n t ih=>
  cases t with
  | nil=>injection h with h;subst h;rfl
  | cons m t=>
   rw [List.getLast?_cons_cons]at h;exact ih h
theorem aD6{n:Nat}{k:Nat->MapEntry->Bool}:∀{es:List MapEntry} {j i:Nat} {e:MapEntry},(es.map (·.born)).Pairwise (· < ·)->es[j]? =some e->e.born=n->NG n k es i=k (i+j) e:=by
 intro es;induction es with
 | nil=>intro j i e _ h;simp at h
 | cons a es ih=>
  intro j i e hp he hb;rw [Bp,List.pairwise_cons]at hp;cases j with
  | zero=>
   simp at he;subst he;show(match Nat.beq a.born n with | true=>k i a | false=>bV (Nat.succ i) fun i=>NG n k es i)=_;have:Nat.beq a.born n=true:=by rw [hb];simp
   rw [this,VN]
  | succ j=>
   have he:es[j]? =some e:=by simpa using he
   have hlt:=hp.1 e.born (List.mem_map.2 ⟨e,CW he,rfl⟩);show(match Nat.beq a.born n with | true=>k i a | false=>bV (Nat.succ i) fun i=>NG n k es i)=_;have:Nat.beq a.born n=false:=by cases hq:Nat.beq a.born n with | false=>rfl | true=>have:=dE hq;omega
   rw [this];show bV (Nat.succ i) (fun i=>NG n k es i)=_;rw [bK];show NG n k es (Nat.succ i)=_;rw [ih hp.2 he hb]
   congr 1;omega
theorem aKn{n:Nat}{k:Nat->MapEntry->Bool}{es:List MapEntry}{j:Nat}{e:MapEntry} (hp:(es.map (·.born)).Pairwise (· < ·)) (he:es[j]? =some e) (hb:e.born=n):Uw n es k=k j e:=by
 have:=aD6 (k:=k) (i:=0) hp he hb;rw [eG]at this;exact this
theorem aCi (s:VS P B Sb c h S){x:V}{w:Value} (r:fI c S (dI B c h) x w){Kv:KV}{K:VK} (k:KR P B Sb c h S Kv K) (hv:SX x h Kv):Xd w S K=true:=by
 unfold SX at hv;split at hv
 ·rename_i i
  cases r with
  | ptr hZ=>
   rename_i bb;split at hv
   ·rename_i m since seen last ei
    split at hv
    ·rename_i es bs ck em
     obtain⟨rfl,hp,j,e,b0,h1,h2,h3,hv⟩:=hv;obtain⟨b,rr,a1,a2,a3⟩:=s.iter ei;rw [hZ]at a1;injection a1 with a1;subst a1;obtain⟨b2,jO,c1,c2,c3,c4,c5⟩:=s.wD em;rw [a3]at c1;injection c1 with c1;subst c1;show rE S.h _ _=true;have a2':S.h.get _=some (.iter (some rr) since seen ck):=a2;have c2':S.h.get rr=some (.map jO ck):=c2;rw [mZ,a2'];show rE S.h rr _=true;rw [mZ,c2'];have hcc:Nat.beq ck ck=true:=by simp
     have hlt:aAO seen (fun b=>Uw b jO fun _ e=>K (.tuple ⟨[e.key,e.val]⟩) S)=Uw b0 jO fun _ e=>K (.tuple ⟨[e.key,e.val]⟩) S:=aKm h3;simp only [hcc];rw [hlt];have hj:j<jO.length:=by rw [<-c5.1];exact(List.getElem?_eq_some_iff.1 h1).1
     have hb:jO[j].born=b0:=by
      rw [<-c3,dO,aQ hj]at h2;exact Option.some.inj h2
     rw [aKn c4.1 (aQ hj) hb];obtain⟨q1,q2⟩:=c5.2 j _ _ h1 (aQ hj);have rl:lN c S (dI B c h) [e.1,e.2] [jO[j].key,jO[j].val]:= .cons q1 (.cons q2 .nil);exact k.here s (.tuple rl.len rl.rd) hv
    ·cases hv
   ·cases hv
 ·cases hv
theorem aKa{op:BinOp}{t:TypeId}{a b:V}{u w:Value} (r:fI c S C a u) (q:fI c S C b w){Kv:V->Prop}{K:Value->Bool} (k:∀v w,fI c S C v w->Kv v->K w=true) (hv:aO7 P op t a b Kv):aIh P op t u w K=true:=by
 rw [SK];unfold aO7 at hv;split at hv
 ·rename_i l hl
  cases r<;>try (cases hv;done)
  rename_i xs xs' la rxa;cases q<;>try (cases hv;done)
  rename_i ys ys' lb ryb;obtain⟨ox,oy,hv⟩:=hv;unfold Qs at hl;split at hl
  ·cases hl
  ·split at hl
   ·rename_i fs hfs
    split at hl
    ·rename_i l' Sn
     injection hl with hl;injection hl with hl;subst hl
     have eq:∀kk:Bool->Bool,∃e:Bool,(e=true↔xs=ys)/\pN P t (.agg ⟨xs'⟩) (.agg ⟨ys'⟩) kk=kk e:=fun kk=>by
      obtain⟨e,g1,g2⟩:=aKj (k:=kk) Sn ⟨la,rxa⟩ ⟨lb,ryb⟩ ox oy;refine⟨e,g1,?_⟩;unfold pN;simp only [hfs];exact g2
     cases op<;>first | (cases hv;done) | skip
     ·show pN P t (.agg ⟨xs'⟩) (.agg ⟨ys'⟩) (fun e=>oK e K)=true
      obtain⟨e,g1,g2⟩:=eq fun e=>oK e K;rw [g2,rI];cases e with
      | true=>exact k _ _ .bool (hv.1 (g1.1 rfl))
      | false=>exact k _ _ .bool (hv.2 fun h=>by have:=g1.2 h;cases this)
     ·show pN P t (.agg ⟨xs'⟩) (.agg ⟨ys'⟩) (fun e=>oK (!e) K)=true
      obtain⟨e,g1,g2⟩:=eq fun e=>oK (!e) K;rw [g2,rI];cases e with
      | true=>exact k _ _ .bool (hv.1 (g1.1 rfl))
      | false=>exact k _ _ .bool (hv.2 fun h=>by have:=g1.2 h;cases this)
    ·cases hl
   ·cases hl
 ·cases hv
end
end Go.Am
