/- AM: the operations with their types made out: the same as they are. -/
import Derived.Test.YtpcfidjmdfhigaaGreatDoorGb

noncomputable section
namespace Go.Am
open Go.RowKit Go.MapKept
section
variable{P:Program}
theorem Gw{t:TypeId} (h:xQ P t=some false) (a:Value) (S:St) (K:VK):OI P t a S K=rLd a S K:=by
 unfold OI rLd;simp only [h]<;>rfl
theorem Gx{t:TypeId}{n:Nat} (h:xQ P t=some true) (hn:cM P t=some n) (a:Value) (S:St) (K:VK):OI P t a S K=aHH n a S K:=by
 unfold OI aHH;simp only [h,hn]<;>rfl
theorem aAZ{t:TypeId}{n:Nat} (hn:cM P t=some n) (a x:Value) (S:St) (k:St->Bool):Ao P t a x S k=rSt n a x S k:=by
 unfold Ao rSt;simp only [hn]<;>rfl
theorem aA0{t:TypeId}{z:List Value} (hz:wY P t=some z) (hf:xP bY z=true) (S:St) (K:VK):UL P t S K=Gy z t S K:=by
 unfold UL Gy;simp only [hz,hf]
theorem Di{s:TypeId}{f:Nat}{fd:Field}{n:Nat} (hf:DF P s f=some fd) (hn:cM P fd.type=some (n+1)) (x:Value) (K:Value->Bool):FH P s x f K=aHI fd.offset x K:=by
 unfold FH aHI;simp only [hf,hn]<;>rfl
theorem Nv{t:TypeId}{f:Nat}{fd:Field} (hf:DF P t f=some fd) (h:xQ P fd.type=some false) (x:Value) (K:Value->Bool):UK P t x f K=Nx fd.offset x K:=by
 unfold UK Nx;simp only [hf,Ta,h]<;>rfl
theorem Ny{t:TypeId}{f:Nat}{fd:Field}{n:Nat} (hf:DF P t f=some fd) (h:xQ P fd.type=some true) (hn:cM P fd.type=some n) (x:Value) (K:Value->Bool):UK P t x f K=Dj fd.offset n x K:=by
 unfold UK Dj;simp only [hf,Ta,h,hn]<;>rfl
theorem Dk{t e:TypeId}{n:Nat} (he:isSlice P t=some e) (hn:cM P e=some n) (x ix:Value) (K:Value->Bool):FG P t x ix K=aLk n x ix K:=by
 unfold FG aLk;simp only [he,hn,Ie he];cases ix<;>first | rfl | skip
 rename_i kk i;cases i<;>first | rfl | skip
 rename_i i;cases x<;>first | rfl | skip
 ·rename_i b;cases b<;>first | rfl | (rename_i a;obtain⟨b,o,sp⟩:=a;cases sp<;>rfl)
 ·rename_i b len cap;cases b with
  | none=>rfl
  | some a=>
   obtain⟨b,o,sp⟩:=a
   match sp with
   | none=>simp only;cases Nat.blt i len<;>rfl
   | some 0=>simp only;cases Nat.blt i len<;>rfl
   | some (_+1)=>rfl
theorem aHJ{t e:TypeId} (he:isSlice P t=some e) (x:Value) (S:St) (K:VK):oO P .len [t] [x] S K=aEf x fun v=>K v S:=by
 have hu:=Ie he;have hm:ID P t=none:=by unfold ID;rw [hu]
 cases x<;>simp only [oO,aEf,he,hu,hm]
theorem aHK{t:TypeId} (hu:P.underlying t=some .string) (x:Value) (S:St) (K:VK):oO P .len [t] [x] S K=aA1 x fun v=>K v S:=by
 have hs:isSlice P t=none:=by unfold isSlice;rw [hu]
 have hm:ID P t=none:=by unfold ID;rw [hu]
 cases x<;>simp only [oO,aA1,hs,hu,hm]
theorem Ub{sT xT el:TypeId}{info:TypeInfo}{n:Nat}{z:Value} (h1:isSlice P sT=some el) (h2:Rc (P.underlying xT)=true) (h3:P.info? el=some info) (h4:info.size=n+1) (h5:info.zero=some z) (h6:Nat.beq z.cells.size (n+1)=true)
 (s x:Value) (S:St) (K:VK):QJ P [sT,xT] s x S K=aCE P el (n+1) info.bytes s x S K:=by
 unfold QJ aCE;simp only [h1,h2,h3,h4,h5];cases s<;>simp only [h6]<;>rfl
end
def fbk (o:Oper):OpW:=⟨fun E A S K=>AN E o A S K⟩
structure PtW where
 f:bD->(List (Nat×Nat×Value)->Bool)->Bool
def KU (place:Nat->Option (Nat×Nat)) (ps:List (Nat×Operand)):PtW:=
 gX (β:=PtW) ⟨fun _ k=>k []⟩ (fun p _ ih=>match place p.1 with
  | some (off,size)=>⟨fun A k=>(BC p.2).f A fun v=>ih.f A fun l=>k ((off,size,v)::l)⟩
  | none=>⟨fun _ _=>false⟩) ps
def Js (place:Nat->Option (Nat×Nat)) (p:Nat×Value):Nat×Nat×Value:=match place p.1 with | some (off,size)=>(off,size,p.2) | none=>(0,0,p.2)
theorem aCF (place:Nat->Option (Nat×Nat)) (A:bD):∀(ps:List (Nat×Operand)) (k:List (Nat×Nat×Value)->Bool),(∀p∈ps,(place p.1).isSome=true)->(KU place ps).f A k=IB A ps fun l=>k (l.map (Js place)):=by
 intro ps;induction ps with
 | nil=>intro k _;rfl
 | cons p ps ih=>
  intro k h;have hp:=h p (.head _);obtain⟨⟨off,size⟩,hq⟩:=Option.isSome_iff_exists.1 hp
  have e1:KU place (p::ps)=⟨fun A k=>(BC p.2).f A fun v=>(KU place ps).f A fun l=>k ((off,size,v)::l)⟩:=by
   unfold KU;rw [bV];simp only [hq]
  rw [e1];show(BC p.2).f A _=vP A p.2 fun v=>IB A ps fun l=>k (((p.1,v)::l).map (Js place));rw [kZ]
  congr 1
  funext v
  have e:∀l:List (Nat×Value),((p.1,v)::l).map (Js place)=(off,size,v)::l.map (Js place):=fun l=>by simp [Js,hq]
  simp only [e];exact ih (fun l=>k ((off,size,v)::l)) (fun q hq=>h q (.tail _ hq))
theorem Wy (A:bD):∀(ps:List (Nat×Operand)) (k k':List (Nat×Value)->Bool),(∀l,l.map Prod.fst=ps.map Prod.fst->k l=k' l)->IB A ps k=IB A ps k':=by
 intro ps;induction ps with
 | nil=>intro k k' h;exact h [] rfl
 | cons p ps ih=>
  intro k k' h;show(vP A p.2 fun v=>IB A ps fun l=>k ((p.1,v)::l))=vP A p.2 fun v=>IB A ps fun l=>k' ((p.1,v)::l)
  congr 1
  funext v
  exact ih _ _ fun l hl=>h _ (by simp [hl])
theorem aLl (place:Nat->Option (Nat×Nat)) (k:List Value->Bool):∀(l:List (Nat×Value)) (cs:List Value),(∀p∈l,(place p.1).isSome=true)->YP place l cs k=VV (l.map (Js place)) cs k:=by
 intro l;induction l with
 | nil=>intro cs _;rfl
 | cons p l ih=>
  intro cs h;obtain⟨⟨off,size⟩,hq⟩:=Option.isSome_iff_exists.1 (h p (.head _))
  have e1:YP place (p::l) cs k=match place p.1 with
   | some (off,size)=>pM p.2 fun new=>KD new fun m=>match Nat.beq m size with
    | true=>sW off new cs fun cs=>YP place l cs k
    | false=>false
   | none=>false:=rfl
  have e2:VV ((off,size,p.2)::l.map (Js place)) cs k=pM p.2 fun new=>KD new fun m=>match Nat.beq m size with
   | true=>sW off new cs fun cs=>VV (l.map (Js place)) cs k
   | false=>false:=rfl
  have e3:(p::l).map (Js place)=(off,size,p.2)::l.map (Js place):=by simp [Js,hq]
  have ih':(fun cs=>YP place l cs k)=fun cs=>VV (l.map (Js place)) cs k:=by funext cs;exact ih cs fun q hq=>h q (.tail _ hq)
  rw [e1,e3,e2,hq,ih']
theorem Wz (place:Nat->Option (Nat×Nat)) (A:bD) (ps:List (Nat×Operand)) (cs:List Value) (k:List Value->Bool) (h:∀p∈ps,(place p.1).isSome=true):
 (IB A ps fun l=>YP place l cs k)=(KU place ps).f A fun l=>VV l cs k:=by
 rw [aCF place A ps _ h];refine Wy A ps _ _ fun l hl=>aLl place k l cs fun p hp=>?_;have:p.1∈ps.map Prod.fst:=by rw [<-hl];exact List.mem_map.2 ⟨p,hp,rfl⟩
 obtain⟨q,hq,e⟩:=List.mem_map.1 this;rw [<-e];exact h q hq
def aHL (P:Program) (c:Call):OpW:=
 match c.callee with
 | .builtin .len=>match c.argTypes.toList,c.args.toList with
  | [t],[a]=>match isSlice P t,P.underlying t with
   | some _,_=>⟨fun _ A S K=>(BC a).f A fun v=>aEf v fun v=>K v S⟩
   | none,some .string=>⟨fun _ A S K=>(BC a).f A fun v=>aA1 v fun v=>K v S⟩
   | _,_=>VG P c
  | _,_=>VG P c
 | .builtin .append=>match c.argTypes.toList,c.args.toList with
  | [sT,xT],[a,b]=>match isSlice P sT,Rc (P.underlying xT)with
   | some el,true=>match P.info? el with
    | some info=>match info.size,info.zero with
     | n+1,some z=>match Nat.beq z.cells.size (n+1)with
      | true=>⟨fun _ A S K=>(BC a).f A fun a=>(BC b).f A fun b=>aCE P el (n+1) info.bytes a b S K⟩
      | false=>VG P c
     | _,_=>VG P c
    | none=>VG P c
   | _,_=>VG P c
  | _,_=>VG P c
 | .builtin _=>VG P c
 | .value f=>⟨fun E A S K=>(aCn c.args.toList).f A fun args=>(BC f).f A fun f=>aOm E.call E.round f args S K⟩
 | .invoke r m=>⟨fun E A S K=>(aCn c.args.toList).f A fun args=>(BC r).f A fun v=>aTa P E.call v m args S K⟩
theorem aHM (E:Env) (c:Call) (A:bD) (S:St) (K:VK):(aHL E.P c).f E A S K=nC E A c S K:=by
 unfold aHL;split
 ·rename_i hc
  split
  ·rename_i t a ht ha
   split
   ·rename_i _ _ e hs
    unfold nC;rw [hc,ha,ht];simp only [kZ,UJ,bV,vR,aHJ hs]
   ·rename_i _ _ hs hu
    unfold nC;rw [hc,ha,ht];simp only [kZ,UJ,bV,vR,aHK hu]
   ·exact DP E c A S K
  ·exact DP E c A S K
 ·rename_i hc
  split
  ·rename_i sT xT a b ht ha
   split
   ·rename_i el hs hx
    split
    ·rename_i info hi
     split
     ·rename_i n z hn hz
      split
      ·rename_i Vt
       unfold nC;rw [hc,ha,ht];simp only [kZ,UJ,bV,vR]
       congr 1;funext a;congr 1;funext b
       exact(Ub hs hx hi hn hz Vt a b S K).symm
      ·exact DP E c A S K
     ·exact DP E c A S K
    ·exact DP E c A S K
   ·exact DP E c A S K
  ·exact DP E c A S K
 ·exact DP E c A S K
 ·rename_i f hc
  unfold nC;rw [hc];simp only [Cv,kZ]<;>rfl
 ·rename_i r m hc
  unfold nC;rw [hc];simp only [Cv,kZ]<;>rfl
def opX (P:Program) (o:Oper):OpW:=
 match o.op with
 | .pick c a b=>⟨fun E A S K=>(BC c).f A fun c=>(BC a).f A fun a=>(BC b).f A fun b=>shut E.most (aNl c a b fun v=>K v S)⟩
 | .alloc t=>match wY P t with
  | some z=>match xP bY z with
   | true=>⟨fun _ _ S K=>Gy z t S K⟩
   | false=>fbk o
  | none=>fbk o
 | .build t ps=>match wY P t,P.underlying t with
  | some zero,some (.struct fields)=>match placesOf P fields.toList with
   | some pl=>match xP bY zero,ps.toList.all fun p=>(pl[p.1]?).isSome with
    | true,true=>⟨fun _ A S K=>(KU (pl[·]?) ps.toList).f A fun l=>aCG zero l fun v=>K v S⟩
    | _,_=>fbk o
   | none=>fbk o
  | some zero,some (.array _ elem)=>match cM P elem with
   | some size=>match xP bY zero with
    | true=>⟨fun _ A S K=>(KU (fun i=>some (i*size,size)) ps.toList).f A fun l=>aCG zero l fun v=>K v S⟩
    | false=>fbk o
   | none=>fbk o
  | _,_=>fbk o
 | .buildSlice t len ps=>match isSlice P t with
  | some elem=>match cM P elem,wY P elem with
   | some (size+1),some zero=>match Nat.ble (len*(size+1)) 16777216,Nat.beq zero.length (size+1)with
    | true,true=>match xP bY zero with
     | true=>⟨fun _ A S K=>aAb zero len fun cs=>(KU (fun i=>some (i*(size+1),size+1)) ps.toList).f A fun l=>VV l cs fun cs=>zU S (.cells cs elem .exact) fun i S=>K (.slice (some ⟨i,0,none⟩) len len) S⟩
     | false=>fbk o
    | _,_=>fbk o
   | _,_=>fbk o
  | none=>fbk o
 | .load t a=>match xQ P t,cM P t with
  | some false,_=>⟨fun _ A S K=>(BC a).f A fun a=>rLd a S K⟩
  | some true,some n=>⟨fun _ A S K=>(BC a).f A fun a=>aHH n a S K⟩
  | _,_=>fbk o
 | .store t a x=>match cM P t with
  | some n=>⟨fun _ A S K=>(BC a).f A fun a=>(BC x).f A fun x=>rSt n a x S fun S=>K undef S⟩
  | none=>fbk o
 | .nilCheck x=>⟨fun _ A S K=>(BC x).f A fun v=>aLm P v fun v=>K v S⟩
 | .binOp op t x y _=>⟨fun _ A S K=>(BC x).f A fun a=>(BC y).f A fun b=>aHN P op t a b fun v=>K v S⟩
 | .convert s d x=>match P.underlying s,P.underlying d with
  | some (.int _),some (.int k)=>⟨fun _ A S K=>(BC x).f A fun a=>aHO k a fun v=>K v S⟩
  | _,_=>opW P o
 | .fieldAddr s x f=>match DF P s f with
  | some fd=>match cM P fd.type with
   | some (_+1)=>⟨fun _ A S K=>(BC x).f A fun x=>aHI fd.offset x fun v=>K v S⟩
   | _=>opW P o
  | none=>opW P o
 | .field t x f=>match DF P t f with
  | some fd=>match xQ P fd.type,cM P fd.type with
   | some false,_=>⟨fun _ A S K=>(BC x).f A fun x=>Nx fd.offset x fun v=>K v S⟩
   | some true,some n=>⟨fun _ A S K=>(BC x).f A fun x=>Dj fd.offset n x fun v=>K v S⟩
   | _,_=>opW P o
  | none=>opW P o
 | .indexAddr t x ix=>match isSlice P t with
  | some el=>match cM P el with
   | some n=>⟨fun _ A S K=>(BC x).f A fun x=>(BC ix).f A fun ix=>aLk n x ix fun v=>K v S⟩
   | none=>opW P o
  | none=>opW P o
 | .index t x ix=>match P.underlying t with
  | some .string=>⟨fun _ A S K=>(BC x).f A fun x=>(BC ix).f A fun ix=>Xa x ix fun v=>K v S⟩
  | _=>opW P o
 | .extract t i=>⟨fun _ A S K=>(BC t).f A fun v=>aHP i v fun v=>K v S⟩
 | .typeAssert x _ as ok=>⟨fun _ A S K=>(BC x).f A fun v=>aEg P as ok v fun v=>K v S⟩
 | .call c=>aHL P c
 | _=>opW P o
theorem aEh{P:Program}{s d:TypeId}{j k:IntKind} (hs:P.underlying s=some (.int j)) (hd:P.underlying d=some (.int k)) (x:Value) (S:St) (K:VK):Hx P s d x S K=aHO k x fun v=>K v S:=by
 cases x<;>simp only [Hx,aHO,hs,hd];rename_i b n c;cases b with
 | none=>rfl
 | some a=>obtain⟨b,o,sp⟩:=a;match sp with
  | none=>rfl
  | some 0=>rfl
  | some (_+1)=>rfl
theorem aA2{P:Program}{t:TypeId} (h:P.underlying t=some .string) (x ix:Value) (K:Value->Bool):Ge P t x ix K=Xa x ix K:=by
 unfold Ge Xa;simp only [h];cases ix<;>first | rfl | skip
 rename_i kk i;cases i<;>first | rfl | skip
 cases x<;>rfl
theorem VW (E:Env) (o:Oper) (A:bD) (S:St) (K:VK):(opX E.P o).f E A S K=AN E o A S K:=by
 unfold opX;split
 ·rename_i c a b h;unfold AN;rw [h];simp only [kZ,Lf,aNl]<;>rfl
 ·rename_i t h
  split
  ·rename_i z hz
   split
   ·rename_i hf;unfold AN;rw [h];exact(aA0 hz hf S K).symm
   ·rfl
  ·rfl
 ·rename_i t ps h
  split
  ·rename_i zero fields hz hu
   split
   ·rename_i pl hp
    split
    ·rename_i hf ha
     unfold AN;rw [h];simp only [Md,hz,hu,hp,hf];refine(Wz (pl[·]?) A ps.toList zero (fun cs=>K (.agg ⟨cs⟩) S) ?_).symm;intro p hp';exact List.all_eq_true.1 ha p hp'
    ·rfl
   ·rfl
  ·rename_i zero n elem hz hu
   split
   ·rename_i size hs
    split
    ·rename_i hf
     unfold AN;rw [h];simp only [Md,hz,hu,hs,hf];exact(Wz (fun i=>some (i*size,size)) A ps.toList zero (fun cs=>K (.agg ⟨cs⟩) S) (fun p _=>rfl)).symm
    ·rfl
   ·rfl
  ·rfl
 ·rename_i t len ps h
  split
  ·rename_i elem hs
   split
   ·rename_i size zero hz Ky
    split
    ·rename_i h1 h2
     split
     ·rename_i hf
      unfold AN;rw [h];simp only [BY,hs,hz,Ky,h1,h2,hf]
      congr 1;funext cs
      exact(Wz (fun i=>some (i*(size+1),size+1)) A ps.toList cs _ (fun p _=>rfl)).symm
     ·rfl
    ·rfl
   ·rfl
  ·rfl
 ·rename_i t a h
  split
  ·rename_i h1;unfold AN;rw [h];simp only [kZ,Gw h1]
  ·rename_i n h1 h2;unfold AN;rw [h];simp only [kZ,Gx h1 h2]
  ·rfl
 ·rename_i t a x h
  split
  ·rename_i n h1;unfold AN;rw [h];simp only [kZ,aAZ h1]
  ·rfl
 ·rename_i x h;unfold AN;rw [h];simp only [kZ,aLm]<;>rfl
 ·rename_i op t x y yt h;unfold AN;rw [h];simp only [kZ,RA]
 ·rename_i s d x h
  split
  ·rename_i j k h1 h2;unfold AN;rw [h];simp only [kZ,aEh h1 h2]
  ·exact FP E o A S K
 ·rename_i s x f h
  split
  ·rename_i fd h1
   split
   ·rename_i n h2;unfold AN;rw [h];simp only [kZ,Di h1 h2]
   ·exact FP E o A S K
  ·exact FP E o A S K
 ·rename_i t x f h
  split
  ·rename_i fd h1
   split
   ·rename_i h2;unfold AN;rw [h];simp only [kZ,Nv h1 h2]
   ·rename_i n h2 h3;unfold AN;rw [h];simp only [kZ,Ny h1 h2 h3]
   ·exact FP E o A S K
  ·exact FP E o A S K
 ·rename_i t x ix h
  split
  ·rename_i el h1
   split
   ·rename_i n h2;unfold AN;rw [h];simp only [kZ,Dk h1 h2]
   ·exact FP E o A S K
  ·exact FP E o A S K
 ·rename_i t x ix h
  split
  ·rename_i h1;unfold AN;rw [h];simp only [kZ,aA2 h1]
  ·exact FP E o A S K
 ·rename_i t i h;unfold AN;rw [h];simp only [kZ,aHP]<;>rfl
 ·rename_i x xt as ok h;unfold AN;rw [h];simp only [kZ,aEg]<;>rfl
 ·rename_i c h;unfold AN;rw [h];exact aHM E c A S K
 ·exact FP E o A S K
def aHQ (v:Value) (T:Tm) (i:Nat) (k:Tm->Bool):Bool:=match T with
 | ⟨t,n⟩=>match Nat.blt i n with
  | true=>YA v (Nat.succ i) t i fun t=>k ⟨t,n⟩
  | false=>false
theorem aHR (v:Value) (T:Tm) (i:Nat) (k:Tm->Bool):aHQ v T i k=uE v T i k:=by cases T;rfl
def aOn (A:bD) (d:Tmp) (v:Value) (k:bD->Bool):Bool:=match A with
 | ⟨T,m,g⟩=>aHQ v T d fun T=>k ⟨T,m,g⟩
theorem aEi (A:bD) (d:Tmp) (v:Value) (k:bD->Bool):aOn A d v k=uE v A.tmps d fun ts=>k ⟨ts,A.marks,A.g⟩:=by
 obtain⟨T,m,g⟩:=A;show aHQ v T d (fun T=>k ⟨T,m,g⟩)=_;rw [aHR]
def aHS (P:Program) (o:Oper):Nb:=
 match o.dst with
 | some d=>⟨fun E A S k=>(opX P o).f E A S fun v S=>aOn A d v fun A=>k A S⟩
 | none=>⟨fun E A S k=>(opX P o).f E A S fun _ S=>k A S⟩
def doX (P:Program) (ops:Array Oper) (o:Oper):Nb:=
 match o.guard with
 | none=>aHS P o
 | some (j,w)=>match ops[j]? with
  | some o'=>match o'.dst with
   | some g=>match o.dst with
    | some d=>⟨fun E A S k=>XD A.tmps g fun b=>shut E.most (Xb w b (fun k=>(opX P o).f E A S k) S fun v S=>aOn A d v fun A=>k A S)⟩
    | none=>⟨fun E A S k=>XD A.tmps g fun b=>shut E.most (Xb w b (fun k=>(opX P o).f E A S k) S fun _ S=>k A S)⟩
   | none=>⟨fun E A S k=>Ar E ops o A S k⟩
  | none=>⟨fun E A S k=>Ar E ops o A S k⟩
theorem aHT (E:Env) (o:Oper) (A:bD) (S:St) (k:KS):(aHS E.P o).f E A S k=AN E o A S fun v S=>mP A o.dst v fun A=>k A S:=by
 unfold aHS mP;cases o.dst<;>simp only [VW,aEi]
theorem Nz (E:Env) (ops:Array Oper) (o:Oper) (A:bD) (S:St) (k:KS):(doX E.P ops o).f E A S k=Ar E ops o A S k:=by
 unfold doX;cases hg:o.guard with
 | none=>
  simp only [aHT];unfold Ar DG;rw [hg];rfl
 | some jw=>
  obtain⟨j,w⟩:=jw;simp only;cases ho:ops[j]? with
  | none=>rfl
  | some o'=>
   simp only;cases hd':o'.dst with
   | none=>rfl
   | some g=>
    simp only;cases hd:o.dst with
    | none=>
     unfold Ar DG mP;simp only [hg,ho,hd',hd,VW,Lf,Xb,Iw]<;>rfl
    | some d=>
     unfold Ar DG mP;simp only [hg,ho,hd',hd,VW,aEi,Lf,Xb,Iw]<;>rfl
def aOo (P:Program) (ops:Array Oper) (l:List Oper):Nb:=
 gX (β:=Nb) ⟨fun _ A S k=>k A S⟩ (fun o _ ih=>⟨fun E A S k=>(doX P ops o).f E A S fun A S=>ih.f E A S k⟩) l
theorem aLn (E:Env) (ops:Array Oper):∀(l:List Oper) (A:bD) (S:St) (k:KS),(aOo E.P ops l).f E A S k=YC E ops l A S k:=by
 intro l;induction l with
 | nil=>intro A S k;rfl
 | cons o l ih=>
  intro A S k;show(doX E.P ops o).f E A S (fun A S=>(aOo E.P ops l).f E A S k)=Ar E ops o A S fun A S=>YC E ops l A S k;rw [Nz]
  congr 1
  funext A S
  exact ih A S k
def aFU (o:Oper) (d:Tmp) (ops:Array Oper) (ih:ChW):ChW:=⟨fun E A S k=>XD A.tmps d fun u=>DG ops o A fun b=>gE b (AN E o A S fun v _=>match SM v u with | true=>ih.f E A S k | false=>false) (match u with | .tuple ⟨[]⟩=>ih.f E A S k | _=>false)⟩
def Oc (P:Program) (ops:Array Oper) (l:List Nat):ChW:=
 gX (β:=ChW) ⟨fun _ _ _ k=>k⟩ (fun i _ ih=>match ops[i]? with
  | some o=>match o.dst with
   | some d=>match o.guard with
    | none=>⟨fun E A S k=>XD A.tmps d fun u=>(opX P o).f E A S fun v _=>Uc v u (ih.f E A S k)⟩
    | some (j,w)=>match ops[j]? with
     | some o'=>match o'.dst with
      | some g=>⟨fun E A S k=>XD A.tmps d fun u=>XD A.tmps g fun b=>shut E.most (Xc w b u (fun k=>(opX P o).f E A S fun v _=>Uc v u k) (ih.f E A S k))⟩
      | none=>aFU o d ops ih
     | none=>aFU o d ops ih
   | none=>⟨fun _ _ _ _=>false⟩
  | none=>⟨fun _ _ _ _=>false⟩) l
theorem aFV (P:Program) (ops:Array Oper) (i:Nat) (l:List Nat):Oc P ops (i::l)=match ops[i]? with
 | some o=>match o.dst with
  | some d=>match o.guard with
   | none=>⟨fun E A S k=>XD A.tmps d fun u=>(opX P o).f E A S fun v _=>Uc v u ((Oc P ops l).f E A S k)⟩
   | some (j,w)=>match ops[j]? with
    | some o'=>match o'.dst with
     | some g=>⟨fun E A S k=>XD A.tmps d fun u=>XD A.tmps g fun b=>shut E.most (Xc w b u (fun k=>(opX P o).f E A S fun v _=>Uc v u k) ((Oc P ops l).f E A S k))⟩
     | none=>aFU o d ops (Oc P ops l)
    | none=>aFU o d ops (Oc P ops l)
  | none=>⟨fun _ _ _ _=>false⟩
 | none=>⟨fun _ _ _ _=>false⟩:=rfl
theorem Xd (E:Env) (ops:Array Oper) (A:bD) (S:St) (k:Bool):∀(l:List Nat),(Oc E.P ops l).f E A S k=zV E ops A S l k:=by
 intro l;induction l with
 | nil=>rfl
 | cons i l ih=>
  rw [aFV,Gm];cases hi:ops[i]? with
  | none=>rfl
  | some o=>
   simp only;cases hd:o.dst with
   | none=>rfl
   | some d=>
    simp only;cases hg:o.guard with
    | none=>
     simp only [VW,ih,DG,hg,Uc];rfl
    | some jw=>
     obtain⟨j,w⟩:=jw;simp only;cases hj:ops[j]? with
     | none=>simp only [aFU,ih]<;>rfl
     | some o'=>
      simp only;cases hd':o'.dst with
      | none=>simp only [aFU,ih]<;>rfl
      | some g=>simp only [VW,ih,DG,hg,hj,hd',Lf,Xc,Iw,Uc,aQW]<;>rfl
def aLo (P:Program) (ops:Array Oper) (i:Nat) (o:Oper):OpW:=match fA P ops i with
 | none=>opX P o
 | some _=>⟨fun E A S K=>IH E ops i o A S K⟩
theorem aEj (E:Env) (ops:Array Oper) (i:Nat) (o:Oper) (A:bD) (S:St) (K:VK):(aLo E.P ops i o).f E A S K=IH E ops i o A S K:=by
 unfold aLo;cases h:fA E.P ops i with
 | none=>simp only [VW];unfold IH;rw [h]
 | some j=>rfl
def Ud (P:Program) (ops:Array Oper) (l:List Nat):Nb:=
 gX (β:=Nb) ⟨fun _ A S k=>k A S⟩ (fun i _ ih=>match ops[i]? with
  | some o=>⟨fun E A S k=>(aLo P ops i o).f E A S fun v S=>aN8 o.dst v A fun A=>ih.f E A S k⟩
  | none=>⟨fun _ _ _ _=>false⟩) l
theorem Dl (E:Env) (ops:Array Oper):∀(l:List Nat) (A:bD) (S:St) (k:KS),(Ud E.P ops l).f E A S k=oB E ops l A S k:=by
 intro l;induction l with
 | nil=>intro A S k;rfl
 | cons i l ih=>
  intro A S k;unfold Ud oB at ih ⊢;rw [bV,bV];cases ops[i]? with
  | none=>rfl
  | some o=>
   simp only [aEj,aEd]
   congr 1
   funext v S
   congr 1
   funext A
   exact ih A S k
def aHU (P:Program) (ops:Array Oper) (l:List (Nat×List Nat)):ChW:=
 gX (β:=ChW) ⟨fun _ _ _ k=>k⟩ (fun p _ ih=>match ops[p.1]? with
  | some o=>⟨fun E A S k=>aCr A o (gE ((Ud P ops p.2).f E A S fun A S=>(aLo P ops p.1 o).f E A S fun _ _=>true) (ih.f E A S k) false)⟩
  | none=>⟨fun _ _ _ _=>false⟩) l
theorem Xe (E:Env) (ops:Array Oper) (A:bD) (S:St) (k:Bool):∀(l:List (Nat×List Nat)),(aHU E.P ops l).f E A S k=TT E ops A S l k:=by
 intro l;induction l with
 | nil=>rfl
 | cons p l ih=>
  unfold aHU TT at ih ⊢;rw [bV,bV];cases ops[p.1]? with
  | none=>rfl
  | some o=>simp only [Dl,aEj,ih]
def Dm (P:Program) (ops:Array Oper) (l:List zH):Nb:=
 gX (β:=Nb) ⟨fun _ _ _ _=>false⟩ (fun s _ ih=>match s with
  | .take i=>match ops[i]? with
   | some o=>⟨fun E A S k=>(doX P ops o).f E A S fun A S=>ih.f E A S k⟩
   | none=>⟨fun _ _ _ _=>false⟩
  | .Ts BQ nG D r FQ=>match ops[r]? with
   | some o=>⟨fun E A S k=>(Oc P ops BQ).f E A S ((aHU P ops nG).f E A S ((Ud P ops D).f E A S fun A S=>(doX P ops o).f E A S fun A S=>(Oc P ops FQ).f E A S (ih.f E A S k)))⟩
   | none=>⟨fun _ _ _ _=>false⟩
  | .fin BQ nG D=>⟨fun E A S k=>(Oc P ops BQ).f E A S ((aHU P ops nG).f E A S ((Ud P ops D).f E A S k))⟩) l
theorem Bc (E:Env) (ops:Array Oper):∀(l:List zH) (A:bD) (S:St) (k:KS),(Dm E.P ops l).f E A S k=mL E ops l A S k:=by
 intro l;induction l with
 | nil=>intro A S k;rfl
 | cons s l ih=>
  intro A S k;unfold Dm mL at ih ⊢;rw [bV,bV];cases s with
  | take i=>
   simp only;cases ops[i]? with
   | none=>rfl
   | some o=>simp only [Nz,ih]
  | Ts BQ nG D r FQ=>
   simp only;cases ops[r]? with
   | none=>rfl
   | some o=>simp only [Nz,Xd,Xe,Dl,ih]
  | fin BQ nG D=>simp only [Xd,Xe,Dl]
def Dn (P:Program) (ops:Array Oper) (l:List zH):Nb:=
 gX (β:=Nb) ⟨fun _ A S k=>k A S⟩ (fun s _ ih=>match s with
  | .take i=>match ops[i]? with
   | some o=>⟨fun E A S k=>(doX P ops o).f E A S fun A S=>ih.f E A S k⟩
   | none=>⟨fun _ _ _ _=>false⟩
  | .Ts BQ nG D r FQ=>match ops[r]? with
   | some o=>⟨fun E A S k=>(Oc P ops BQ).f E A S ((aHU P ops nG).f E A S ((Ud P ops D).f E A S fun A S=>(doX P ops o).f E A S fun A S=>(Oc P ops FQ).f E A S (ih.f E A S k)))⟩
   | none=>⟨fun _ _ _ _=>false⟩
  | .fin _ _ _=>⟨fun _ _ _ _=>false⟩) l
theorem aA3 (E:Env) (ops:Array Oper):∀(l:List zH) (A:bD) (S:St) (k:KS),(Dn E.P ops l).f E A S k=yQ E ops l A S k:=by
 intro l;induction l with
 | nil=>intro A S k;rfl
 | cons s l ih=>
  intro A S k;unfold Dn yQ at ih ⊢;rw [bV,bV];cases s with
  | take i=>
   simp only;cases ops[i]? with
   | none=>rfl
   | some o=>simp only [Nz,ih]
  | Ts BQ nG D r FQ=>
   simp only;cases ops[r]? with
   | none=>rfl
   | some o=>simp only [Nz,Xd,Xe,Dl,ih]
  | fin BQ nG D=>rfl
def aCH (P:Program) (p:VT):Array Oper->Nb:=
 VT.rec (motive:=fun _=>Array Oper->Nb) (fun l ops=>Dm P ops l) (fun l g t b _ ih ops=>⟨fun E A S k=>(Dn P ops l).f E A S fun A S=>Dh A t b ((ih (eZ ops g b)).f E A S k)⟩) p
theorem aFW (E:Env):∀(p:VT) (ops:Array Oper) (A:bD) (S:St) (k:KS),(aCH E.P p ops).f E A S k=VU E p ops A S k:=by
 intro p;induction p with
 | fin l=>intro ops A S k;exact Bc E ops l A S k
 | cut l g t b r ih=>
  intro ops A S k;show(Dn E.P ops l).f E A S (fun A S=>Dh A t b ((aCH E.P r (eZ ops g b)).f E A S k))=yQ E ops l A S fun A S=>Dh A t b (VU E r (eZ ops g b) A S k);rw [aA3]
  congr 1
  funext A S
  rw [ih]
def aFX (P:Program) (ops:Array Oper) (draw:Bool):Nb:=
 match draw with
 | true=>match De P ops with
  | some l=>match OR l with
   | []=>Dm P ops l
   | ls=>⟨fun E A S k=>VI ops ls A fun A=>(Dm P ops l).f E A S k⟩
  | none=>match KM ops with
   | true=>match Dg P (ops.size+1) ops ⟨List.replicate ops.size false⟩ []with
    | some p=>⟨fun E A S k=>VI ops (Wx p) A fun A=>(aCH P p ops).f E A S k⟩
    | none=>⟨fun _ _ _ _=>false⟩
   | false=>⟨fun _ _ _ _=>false⟩
 | false=>aOo P ops ops.toList
theorem aEk (E:Env) (ops:Array Oper) (draw:Bool) (A:bD) (S:St) (k:KS):(aFX E.P ops draw).f E A S k=gE draw (drG E ops A S k) (YC E ops ops.toList A S k):=by
 cases draw with
 | true=>
  unfold aFX drG gE;simp only;cases De E.P ops with
  | none=>
   simp only;cases KM ops with
   | false=>rfl
   | true=>
    simp only;cases Dg E.P (ops.size+1) ops ⟨List.replicate ops.size false⟩ []with
    | none=>rfl
    | some p=>simp only [aFW]
  | some l=>
   simp only;cases h:OR l with
   | nil=>exact Bc E ops l A S k
   | cons d ls=>simp only [Bc]
 | false=>exact aLn E ops _ A S k
structure sN where
 loop:Nat->List Nat×List Nat×List Nat
 join:Nat->Option (List Nat)
def rP:Code->Option Nat
 | .region i _ _=>some i
 | .seq a b=>match rP a with | some i=>some i | none=>rP b
 | .cond _ a b=>match rP a with | some i=>some i | none=>rP b
 | .block _ a=>rP a
 | .loop a=>rP a
 | .scope a=>rP a
 | .rangeFunc _ _ a b=>match rP a with | some i=>some i | none=>rP b
 | _=>none
def zW (tb:sN) (a:Code):List Nat:=match rP a with | some i=>(tb.loop i).1 | none=>[]
def Do (tb:sN) (a:Code) (e:zG):List Nat:=match rP a with
 | some i=>match e with | .ret=>(tb.loop i).2.2 | _=>(tb.loop i).2.1
 | none=>[]
def II (tb:sN) (b:Code):Option (List Nat):=match rP b with | some i=>tb.join i | none=>none
def DT (l:List Nat) (A:bD) (k:List Value->Bool):Bool:=
 gX (β:=(List Value->Bool)->Bool) (fun k=>k []) (fun i _ ih k=>XD A.tmps i fun v=>ih fun vs=>k (v::vs)) l k
def KX (l:List Nat) (vs:List Value) (nt g:Nat) (marks:List Nat) (k:bD->Bool):Bool:=
 gX (β:=List Value->Tm->Bool) (fun _ T=>k ⟨T,marks,g⟩) (fun i _ ih vs T=>match vs with | v::vs=>uE v T i fun T=>ih vs T | []=>false) l vs ⟨.leaf,nt⟩
abbrev LpT:=Env->Option Nat->List Value->Nat->List Nat->St->(zG->List Value->Nat->List Nat->St->Bool)->Bool
section
variable (P:Program) (tb:sN)
def Xj (a:Code) (ih:List Value->Nat->List Nat->St->Bool) (K:zG->List Value->Nat->List Nat->St->Bool):As:=fun e A S=>match e with
 | .normal=>DT (zW tb a) A fun vs=>ih vs A.tmps.n A.marks S
 | e=>DT (Do tb a e) A fun vs=>K e vs A.tmps.n A.marks S
def Dp (a:Code) (body:CdW) (E:Env) (r:Option Nat) (K:zG->List Value->Nat->List Nat->St->Bool):Nat->List Value->Nat->List Nat->St->Bool:=
 MF (β:=List Value->Nat->List Nat->St->Bool) (fun _ _ _ _=>false) (fun _ ih vs n marks S=>KX (zW tb a) vs n P.globals.size marks fun A=>body.f E r A S (Xj tb a ih K))
def aLr (a:Code) (body:CdW):LpT:=fun E r vs n marks S K=>Dp P tb a body E r K E.most vs n marks S
def aOs (a:Code) (K:As):zG->List Value->Nat->List Nat->St->Bool:=fun e vs n marks S=>KX (Do tb a e) vs n P.globals.size marks fun A=>K e A S
def aQX (a:Code) (lp:LpT):CdW:=⟨fun E r A S K=>DT (zW tb a) A fun vs=>lp E r vs A.tmps.n A.marks S (aOs P tb a K)⟩
def aEl (l:List Nat) (b:CdW) (E:Env) (r:Option Nat) (K:As) (vs:List Value) (n:Nat) (marks:List Nat) (S:St):Bool:=pL E.most false fun _=>KX l vs n P.globals.size marks fun A=>b.f E r A S K
def aA5 (j:Option (List Nat)) (b:CdW) (E:Env) (r:Option Nat) (K:As):As:=fun e A S=>match e with
 | .normal=>match j with
  | none=>b.f E r A S K
  | some l=>DT l A fun vs=>aEl P l b E r K vs A.tmps.n A.marks S
 | e=>K e A S
def aCK (id:Nat) (K:As):As:=fun e A S=>match e with
 | .exit i=>match Nat.beq i id with | true=>K .normal A S | false=>K (.exit i) A S
 | e=>K e A S
def pP (lp:Code->LpT):Code->CdW
 | .skip=>⟨fun _ _ A S K=>K .normal A S⟩
 | .region _ ops draw=>⟨fun E _ A S K=>(aFX P ops draw).f E A S fun A S=>K .normal A S⟩
 | .seq a b=>⟨fun E r A S K=>(pP lp a).f E r A S (aA5 P (II tb b) (pP lp b) E r K)⟩
 | .cond c a b=>⟨fun E r A S K=>(BC c).f A fun v=>match v with | .bool v=>gE v ((pP lp a).f E r A S K) ((pP lp b).f E r A S K) | _=>false⟩
 | .block id a=>⟨fun E r A S K=>(pP lp a).f E r A S (aCK id K)⟩
 | .loop a=>aQX P tb a (lp a)
 | .scope a=>pP lp a
 | .rangeFunc f ps as bo=>⟨fun E r A S K=>At E r f ps as bo A S K⟩
 | .exit id=>⟨fun _ _ A S K=>K (.exit id) A S⟩
 | .label _=>⟨fun _ _ A S K=>K .normal A S⟩
 | .ret=>⟨fun _ _ A S K=>K .ret A S⟩
 | _=>⟨fun _ _ _ _ _=>false⟩
def lpX:Nat->Code->LpT
 | 0=>fun _ _ _ _ _ _ _ _=>false
 | n+1=>fun a=>aLr P tb a (pP P tb (lpX n) a)
end
end Go.Am
namespace Go.Am
open Go.RowKit Go.MapKept
section
variable{P:Program}{w0:World}{U:Rn}{S:St}{w:World}
theorem aCL{A:bD}:∀{l:List Nat} {k:List Value->Bool},DT l A k=true->∃vs,k vs=true/\vs.length=l.length/\∀(j i:Nat) (v:Value),l[j]? =some i->vs[j]? =some v->A.tmps.t.get i=some v:=by
 intro l;induction l with
 | nil=>intro k hk;exact⟨[],hk,rfl,fun j i v h=>by simp at h⟩
 | cons x l ih=>
  intro k hk;obtain⟨v,hv,hk⟩:=HC (show XD A.tmps x (fun v=>DT l A fun vs=>k (v::vs))=true from hk);obtain⟨vs,h1,h2,h3⟩:=ih hk;refine⟨v::vs,h1,by simp [h2],fun j i u hi hu=>?_⟩;cases j with
  | zero=>simp at hi hu;subst hi hu;exact hv
  | succ j=>simp at hi hu;exact h3 j i u hi hu
def aEm (U:Rn) (l:List Nat) (vs:List Value) (a:Act):Prop:=vs.length=l.length/\∀(j i:Nat) (v:Value),l[j]? =some i->vs[j]? =some v->∃v',a.tmps.toList[i]? =some v'/\VR U v v'
theorem aA6{A:bD}{a:Act} (hA:BK P U A a){l:List Nat}{k:List Value->Bool} (hk:DT l A k=true):∃vs,k vs=true/\aEm U l vs a:=by
 obtain⟨vs,h1,h2,h3⟩:=aCL hk;exact⟨vs,h1,h2,fun j i v hi hv=>hA.tmps.get (h3 j i v hi hv)⟩
theorem Xk{a:Act}{marks:List Nat}{k:bD->Bool}{nt:Nat}:∀{l:List Nat} {vs:List Value} {T:Tm},
 (gX (β:=List Value->Tm->Bool) (fun _ T=>k ⟨T,marks,P.globals.size⟩) (fun i _ ih vs T=>match vs with | v::vs=>uE v T i fun T=>ih vs T | []=>false) l vs T)=true->
 aEm U l vs a->T.n=nt->(∀i v,T.t.get i=some v->∃v',a.tmps.toList[i]? =some v'/\VR U v v')->∃T',k ⟨T',marks,P.globals.size⟩=true/\T'.n=nt/\∀i v,T'.t.get i=some v->∃v',a.tmps.toList[i]? =some v'/\VR U v v':=by
 intro l;induction l with
 | nil=>intro vs T hk _ hn hT;exact⟨T,hk,hn,hT⟩
 | cons x l ih=>
  intro vs T hk hv hn hT;rw [bV]at hk;cases vs with
  | nil=>have:=hv.1;simp at this
  | cons v vs=>
   obtain⟨hx,hk⟩:=FL hk;refine ih hk ⟨by have:=hv.1;simpa using this,fun j i u hi hu=>hv.2 (j+1) i u (by simpa using hi) (by simpa using hu)⟩ hn fun i u hu=>?_;have hu:(T.t.put x v).get i=some u:=hu;rw [BB]at hu;split at hu
   ·rename_i e
    injection hu with hu;subst hu e;exact hv.2 0 i v rfl rfl
   ·exact hT i u hu
theorem aA7{a:Act}{marks:List Nat}{k:bD->Bool}{nt:Nat}{l:List Nat}{vs:List Value} (hk:KX l vs nt P.globals.size marks k=true) (hv:aEm U l vs a) (hn:nt=a.tmps.size) (hm:Wc U marks a.defers) (hr:Rel P w0 U S w):
 ∃A,k A=true/\SR P w0 U A a S w/\A.marks=marks:=by
 obtain⟨T',h1,h2,h3⟩:=Xk hk hv rfl (fun i v h=>by cases h);exact⟨_,h1,⟨⟨⟨by rw [h2,hn];simp,h3⟩,rfl⟩,hr,hm⟩,rfl⟩
end
end Go.Am
namespace Go.Am
open Go.RowKit Go.MapKept
section
variable{E:Env}{w0:World}
structure AtX (P:Program) (w0:World) (U:Rn) (l:List Nat) (vs:List Value) (n:Nat) (marks:List Nat) (a:Act) (S:St) (w:World):Prop where
 aTb:aEm U l vs a
 size:n=a.tmps.size
 marks:Wc U marks a.defers
 rel:Rel P w0 U S w
def aTc (P:Program) (w0:World) (tb:sN) (b:Code) (U:Rn) (w:World) (K:zG->List Value->Nat->List Nat->St->Bool) (e:Exit) (a':Act) (w':World):Prop:=
 ∃U' ae vs n marks S',e=exR ae/\K ae vs n marks S'=true/\AtX P w0 U' (Do tb b ae) vs n marks a' S' w'/\xV U w U' w'
def aQY (E:Env) (w0:World) (tb:sN) (lp:Code->LpT):Prop:=∀(b:Code) {U:Rn} {vs:List Value} {n:Nat} {marks:List Nat} {a:Act} {S:St} {w:World} {K:zG->List Value->Nat->List Nat->St->Bool} {r ro:Option Nat} {Q:Exit->Act->World->Prop},
 lp b E r vs n marks S K=true->AtX E.P w0 U (zW tb b) vs n marks a S w->RoR U r ro->(∀e a' w',aTc E.P w0 tb b U w K e a' w'->Q e a' w')->(Code.loop b).wpIn (TR ro) 0 E.P Q a w
theorem AtX.canon{P:Program}{U:Rn}{l:List Nat}{vs:List Value}{n:Nat}{marks:List Nat}{a:Act}{S:St}{w:World}{k:bD->Bool} (h:AtX P w0 U l vs n marks a S w) (hk:KX l vs n P.globals.size marks k=true):∃A,k A=true/\SR P w0 U A a S w:=by
 obtain⟨A,h1,h2,_⟩:=aA7 hk h.aTb h.size h.marks h.rel;exact⟨A,h1,h2⟩
theorem SR.at{P:Program}{U:Rn}{A:bD}{a:Act}{S:St}{w:World}{l:List Nat}{k:List Value->Bool} (h:SR P w0 U A a S w) (hk:DT l A k=true):∃vs,k vs=true/\AtX P w0 U l vs A.tmps.n A.marks a S w:=by
 obtain⟨vs,h1,h2⟩:=aA6 h.act hk;exact⟨vs,h1,h2,by rw [h.act.tmps.1];simp,h.marks,h.rel⟩
theorem Dq (hc:kY E.P w0 E.call) (hr:oA E.P w0 E.round) (hm:E.P.follows .mixedOrders=true){tb:sN}{lp:Code->LpT} (hlp:aQY E w0 tb lp):∀(c:Code) {U:Rn} {A:bD} {a:Act} {S:St} {w:World} {K:As} {r ro:Option Nat} {Q:Exit->Act->World->Prop},
 (pP E.P tb lp c).f E r A S K=true->SR E.P w0 U A a S w->RoR U r ro->(∀e a' w',Arr E.P w0 U w K e a' w'->Q e a' w')->c.wpIn (TR ro) 0 E.P Q a w:=by
 intro c;induction c with
 | skip=>intro U A a S w K r ro Q hk hs uF hQ;exact wpIn_skip (hQ _ _ _ ⟨U,.normal,A,S,rfl,hk,hs,.refl U w⟩)
 | label l=>intro U A a S w K r ro Q hk hs uF hQ;exact wpIn_label (hQ _ _ _ ⟨U,.normal,A,S,rfl,hk,hs,.refl U w⟩)
 | ret=>intro U A a S w K r ro Q hk hs uF hQ;exact wpIn_ret (hQ _ _ _ ⟨U,.ret,A,S,rfl,hk,hs,.refl U w⟩)
 | exit id=>intro U A a S w K r ro Q hk hs uF hQ;exact wpIn_exit (hQ _ _ _ ⟨U,.exit id,A,S,rfl,hk,hs,.refl U w⟩)
 | goto l=>intro U A a S w K r ro Q hk hs uF hQ;cases hk
 | refuse l=>intro U A a S w K r ro Q hk hs uF hQ;cases hk
 | region id ops draw=>
  intro U A a S w K r ro Q hk hs uF hQ;have hk:(aFX E.P ops draw).f E A S (fun A S=>K .normal A S)=true:=hk;rw [aEk]at hk;exact Cq hc hr (aOl hc hr hm) (.region id ops draw) hk hs uF hQ
 | seq x y ihx ihy=>
  intro U A a S w K r ro Q hk hs uF hQ;have hk:(pP E.P tb lp x).f E r A S (aA5 E.P (II tb y) (pP E.P tb lp y) E r K)=true:=hk;refine wpIn_seq (ihx hk hs uF ?_)
  rintro e a' w' ⟨U',ae,A',S',rfl,h1,h2,h3⟩
  cases ae with
  | normal=>
   unfold aA5 at h1;cases hj:II tb y with
   | none=>
    rw [hj]at h1;exact ihy h1 h2 (uF.mono h3.ext) fun e a w h=>hQ e a w (h.trans h3)
   | some l=>
    rw [hj]at h1;have h1:DT l A' (fun vs=>aEl E.P l (pP E.P tb lp y) E r K vs A'.tmps.n A'.marks S')=true:=h1;obtain⟨vs,g1,g2⟩:=h2.at h1
    have g1:KX l vs A'.tmps.n E.P.globals.size A'.marks (fun A=>(pP E.P tb lp y).f E r A S' K)=true:=by
     unfold aEl at g1;cases hm:E.most with
     | zero=>rw [hm]at g1;cases g1
     | succ m=>rw [hm]at g1;exact g1
    obtain⟨A2,g3,g4⟩:=g2.canon g1;exact ihy g3 g4 (uF.mono h3.ext) fun e a w h=>hQ e a w (h.trans h3)
  | exit id=>exact hQ _ _ _ ⟨U',.exit id,A',S',rfl,h1,h2,h3⟩
  | ret=>exact hQ _ _ _ ⟨U',.ret,A',S',rfl,h1,h2,h3⟩
 | cond c x y ihx ihy=>
  intro U A a S w K r ro Q hk hs uF hQ;have hk:(BC c).f A (fun v=>match v with | .bool b=>gE b ((pP E.P tb lp x).f E r A S K) ((pP E.P tb lp y).f E r A S K) | _=>false)=true:=hk;rw [kZ]at hk;obtain⟨v,hk,hv⟩:=aX hs.rel hs.act hk;split at hk
  ·rename_i b
   have e:=hv.of_flat rfl;cases b with
   | true=>exact wpIn_cond_true e (ihx hk hs uF hQ)
   | false=>exact wpIn_cond_false e (ihy hk hs uF hQ)
  ·cases hk
 | block id x ih=>
  intro U A a S w K r ro Q hk hs uF hQ;have hk:(pP E.P tb lp x).f E r A S (aCK id K)=true:=hk;refine wpIn_block (ih hk hs uF ?_)
  rintro e a' w' ⟨U',ae,A',S',rfl,h1,h2,h3⟩
  cases ae with
  | normal=>exact hQ _ _ _ ⟨U',.normal,A',S',rfl,h1,h2,h3⟩
  | ret=>exact hQ _ _ _ ⟨U',.ret,A',S',rfl,h1,h2,h3⟩
  | exit i=>
   unfold aCK at h1;simp only at h1;show Exit.inBlock id Q (.exit i) a' w';split at h1
   ·rename_i hi
    have hi:=dH hi;subst hi;simp only [Exit.inBlock,if_true];exact hQ _ _ _ ⟨U',.normal,A',S',rfl,h1,h2,h3⟩
   ·rename_i hi
    have hi:=UC hi;simp only [Exit.inBlock,hi,if_false];exact hQ _ _ _ ⟨U',.exit i,A',S',rfl,h1,h2,h3⟩
 | scope x ih=>
  intro U A a S w K r ro Q hk hs uF hQ;refine My (ih (show(pP E.P tb lp x).f E r A S K=true from hk) hs uF ?_)
  rintro e a' w' ⟨U',ae,A',S',rfl,h1,h2,h3⟩
  cases ae with
  | normal=>exact hQ _ _ _ ⟨U',.normal,A',S',rfl,h1,h2,h3⟩
  | exit id=>exact hQ _ _ _ ⟨U',.exit id,A',S',rfl,h1,h2,h3⟩
  | ret=>exact hQ _ _ _ ⟨U',.ret,A',S',rfl,h1,h2,h3⟩
 | rangeFunc f ps as bo _ _=>
  intro U A a S w K r ro Q hk hs uF hQ;exact Tn hc hk hs uF hQ
 | loop x ih=>
  intro U A a S w K r ro Q hk hs uF hQ;have hk:DT (zW tb x) A (fun vs=>lp x E r vs A.tmps.n A.marks S (aOs E.P tb x K))=true:=hk;obtain⟨vs,hk,QA⟩:=hs.at hk;refine hlp x hk QA uF ?_
  rintro e a' w' ⟨U',ae,vs',n',aTd,S',rfl,h1,h2,h3⟩
  obtain⟨A',h1,h4⟩:=h2.canon h1;exact hQ _ _ _ ⟨U',ae,A',S',rfl,h1,h4,h3⟩
theorem aCM (hc:kY E.P w0 E.call) (hr:oA E.P w0 E.round) (hm:E.P.follows .mixedOrders=true) (tb:sN):∀m,aQY E w0 tb (lpX E.P tb m):=by
 intro m;induction m with
 | zero=>intro b U vs n marks a S w K r ro Q hk;cases hk
 | succ m ih=>
  intro b U vs n marks a S w K r ro Q hk QA uF hQ
  let F:Nat->List Value->Nat->List Nat->St->Bool:=Dp E.P tb b (pP E.P tb (lpX E.P tb m) b) E r K
  have hk:F E.most vs n marks S=true:=hk
  let I:Nat->Act->World->Prop:=fun j a' w'=>∃U' vs n marks S',F j vs n marks S'=true/\AtX E.P w0 U' (zW tb b) vs n marks a' S' w'/\xV U w U' w'
  refine wpIn_loop (I:=fun a w=>∃j,I j a w) (μ:=fun a w=>least fun j=>I j a w) ⟨E.most,U,vs,n,marks,S,hk,QA,.refl U w⟩ ?_
  rintro a1 w1 ⟨j0,hj0⟩
  obtain⟨hj,_⟩:=QV (p:=fun j=>I j a1 w1) hj0;generalize aSH:least (fun j=>I j a1 w1)=j at hj;obtain⟨U1,vs1,n1,aOt,S1,h1,h2,h3⟩:=hj;cases j with
  | zero=>cases h1
  | succ j=>
   have h1:KX (zW tb b) vs1 n1 E.P.globals.size aOt (fun A=>(pP E.P tb (lpX E.P tb m) b).f E r A S1 (Xj tb b (F j) K))=true:=h1;obtain⟨A1,h1,xK⟩:=h2.canon h1;refine Dq hc hr hm ih b h1 xK (uF.mono h3.ext) ?_
   rintro e a' w' ⟨U',ae,A',S',rfl,g1,g2,g3⟩
   cases ae with
   | normal=>
    obtain⟨vs',g1,aH0⟩:=g2.at g1;have hI:I j a' w':=⟨U',vs',_,_,S',g1,aH0,h3.trans g3⟩;refine⟨⟨j,hI⟩,?_⟩;have:=(QV (p:=fun j=>I j a' w') hI).2;exact Nat.lt_succ_of_le this
   | exit id=>
    obtain⟨vs',g1,aH0⟩:=g2.at g1;exact hQ _ _ _ ⟨U',.exit id,vs',_,_,S',rfl,g1,aH0,h3.trans g3⟩
   | ret=>
    obtain⟨vs',g1,aH0⟩:=g2.at g1;exact hQ _ _ _ ⟨U',.ret,vs',_,_,S',rfl,g1,aH0,h3.trans g3⟩
end
section
variable (P:Program) (tb:FuncId->sN)
def aTe (fn:Func) (K:VK):As:=fun e A S=>match e with
 | .exit _=>false
 | _=>NW A.marks S fun S=>tB P fn.results.toList A S fun vs=>match vs with | [v]=>K v S | vs=>K (.tuple ⟨vs⟩) S
def EU:Nat:=5
def fnX (f:FuncId) (E:Env) (args:List Value) (S:St) (K:VK):Bool:=
 match P.funcs[f]? with
 | some fn=>match fn.body with
  | some c=>bX fn.ntmps fun n=>aDU n args fun ts=>(pP P (tb f) (lpX P (tb f) EU) c).f E none ⟨ts,[],P.globals.size⟩ S (aTe P fn K)
  | none=>false
 | none=>false
def Gz (n:Nat) (bo:Code):Nat:=match rP bo with | some i=>1000000+n*10000+i | none=>1000000
def YY (n:Nat) (bo:Code):List Nat:=((tb (Gz n bo)).loop 1000000).1
def aLs (l:Nat) (K:VK):As:=fun e _ S=>rL S.h l fun o=>match o with
 | .loop tm ps as bo _ _=>match e with
  | .normal=>sV S l (.loop tm ps as bo .ready none) fun S=>K (.bool true) S
  | .ret=>sV S l (.loop tm ps as bo .done (some .ret)) fun S=>K (.bool false) S
  | .exit id=>sV S l (.loop tm ps as bo .done (some (.exit id))) fun S=>K (.bool false) S
 | _=>false
def aH1 (n l:Nat) (bo:Code) (E:Env) (K:VK):As:=fun e A S=>match e with
 | .normal=>rL S.h l fun o=>match o with
  | .loop tm ps as bo' .ready pe=>sV S l (.loop tm ps as bo' .busy pe) fun S=>(pP P (tb (Gz n bo)) (lpX P (tb (Gz n bo)) EU) bo).f E (some l) A S (aLs l K)
  | _=>false
 | _=>false
def Od (E:Env) (l:Nat) (args:List Value) (S:St) (K:VK):Bool:=
 rL S.h l fun o=>match o with
  | .loop tmps ps as bo _ _=>DT (YY tb tmps.n bo) ⟨tmps,[],P.globals.size⟩ fun vs=>KX (YY tb tmps.n bo) vs tmps.n P.globals.size [] fun A=>aAv ps args A.tmps fun ts=>
   (pP P (tb (Gz tmps.n bo)) (lpX P (tb (Gz tmps.n bo)) EU) as).f E (some l) ⟨ts,[],P.globals.size⟩ S (aH1 P tb tmps.n l bo E K)
  | _=>false
def aF1 (ov:FuncId->Option (List Value->St->VK->Bool)) (most:Nat) (n:Nat):Env:=
 MF (β:=Env) {P,ov,call:=fun _ _ _ _=>false,round:=fun _ _ _ _=>false,most}
  (fun _ E=>{P,ov,call:=fun f args S K=>match ov f with | some g=>g args S K | none=>fnX P tb f E args S K,round:=fun l args S K=>Od P tb E l args S K,most}) n
inductive Dir where
 | l
 | r
 | d
variable (T:sN) (E:Env)
end
section
variable{P:Program}{tb:FuncId->sN}{w0:World}
theorem aF2{E:Env} (hP:E.P=P) (hc:kY P w0 E.call) (hr:oA P w0 E.round) (hm:P.follows .mixedOrders=true) (KK:∀(f:FuncId) (fn:Func),P.funcs[f]? =some fn->fn.name≠ "runtime.NumGoroutine"):kY P w0 (fun f args S K=>fnX P tb f E args S K):=by
 subst hP;intro f args S K U w eV hk h ha;dsimp only at hk;unfold fnX at hk;split at hk
 ·rename_i fn hf
  split at hk
  ·rename_i c hb
   refine⟨fun w=>?_,?_⟩
   ·have hn:=KK f fn hf
    have hp:(program).run E.P w= .ok E.P w:=rfl;simp [callFunc,hp,hf,hn,hb]
   ·rw [bJ]at hk
    obtain⟨ts,hk,Mn⟩:=If hk ha;refine callsIn_of_wp_marks hf hb trivial (Dq hc hr hm (aCM hc hr hm (tb f) EU) c (ro:=none) (r:=none) hk ⟨⟨Mn,rfl⟩,h,⟨rfl,by simp⟩⟩ (.inl ⟨rfl,rfl⟩) ?_)
    ·rintro e a' w' ⟨U',ae,A',S',rfl,g1,g2,g3⟩
     have fin:NW A'.marks S' (fun S=>tB E.P fn.results.toList A' S fun vs=>match vs with | [v]=>K v S | vs=>K (.tuple ⟨vs⟩) S)=true->LeavesInM (TR none) 0 E.P fn a'.tmps (aFx E.P w0 U w K) a'.defers .returning w':=by
      intro hk;refine Cr hk g2.rel g2.marks fun S2 w2 hk hrel UY=>?_;obtain⟨vs,vs',hk,KL,fU⟩:=VD hrel g2.act hk
      have aNU:(fn.results.mapM (fun | .tmp t=>pure (a'.tmps.getD t undef) | .cell x t=>do loadVar t (<-asAddr (a'.tmps.getD x undef)):ResultVar->Sem Value)).run E.P w2= .ok ⟨vs'⟩ w2:=by
       rw [<-Array.toArray_toList (xs:=fn.results),List.mapM_toArray];rw [Sem.run_map];exact(jY (fun r=>Result.andThen r _) fU).trans rfl
      refine⟨(if h:(⟨vs'⟩:Array Value).size=1 then(⟨vs'⟩:Array Value)[0]else .tuple ⟨vs'⟩),?_,?_⟩
      ·unfold results
       rw [cP];exact(jY (fun r=>Result.andThen r _) aNU).trans rfl
      ·refine⟨_,rfl,?_⟩
       match vs,vs',hk,KL with
       | [v],[v'],hk,KL=>exact⟨U',v,S2,hk,KL.head,hrel,g3.trans UY⟩
       | [],[],hk,KL=>exact⟨U',_,S2,hk,.pO (.nil _),hrel,g3.trans UY⟩
       | a::b::l,a2::b2::l2,hk,KL=>
        have:¬(⟨a2::b2::l2⟩:Array Value).size=1:=by simp
        rw [dif_neg this];exact⟨U',_,S2,hk,.pO KL,hrel,g3.trans UY⟩
       | [],_::_,_,KL=>have:=KL.1;simp at this
       | _::_,[],_,KL=>have:=KL.1;simp at this
       | [_],_::_::_,_,KL=>have:=KL.1;simp at this
       | _::_::_,[_],_,KL=>have:=KL.1;simp at this
     cases ae with
     | normal=>exact fin g1
     | ret=>exact fin g1
     | exit id=>cases g1
  ·cases hk
 ·cases hk
theorem Xl{E:Env} (hP:E.P=P) (hc:kY P w0 E.call) (hr:oA P w0 E.round) (hm:P.follows .mixedOrders=true):oA P w0 (Od P tb E):=by
 subst hP;intro l args S K U w eV L hk h ha hL;unfold Od at hk;obtain⟨o,ho,hk⟩:=oY hk;split at hk
 ·rename_i tmps params assign body st pe
  obtain⟨r,hb,hrr,hst,hpe,UN,has,Zz,htm⟩:=xY h ho hL;have aTf:SR E.P w0 U ⟨tmps,[],E.P.globals.size⟩ {tmps:=r.tmps,defers:=[]} S w:=⟨⟨htm,rfl⟩,h,⟨rfl,by simp⟩⟩;obtain⟨vs,hk,QA⟩:=aTf.at hk;obtain⟨A0,hk,hA0⟩:=QA.canon hk;obtain⟨ts,hk,hlen,Mn⟩:=Na hk ha hA0.act.tmps
  have aCl:(Instr.yield L.b ⟨eV⟩).run E.P w= .ok (.round L.b r.fn ((r.params.zip ⟨eV⟩).foldl (fun tmps (x:Tmp×Value)=>tmps.setIfInBounds x.1 x.2) r.tmps) r.assign r.body) w:=by
   have hsz:(⟨eV⟩:Array Value).size=r.params.size:=by
    show eV.length=_;rw [hlen,<-UN];rfl
   have oM:¬(⟨eV⟩:Array Value).size≠r.params.size:=fun hh=>hh hsz;simp only [Instr.yield,cP,run_getLoop hrr,eI,aG oM,kJ]
  refine⟨_,_,_,_,aCl,?_⟩;refine roundIn_of_wpIn trivial ?_;rw [has]
  have aNV:((r.params.zip ⟨eV⟩).foldl (fun tmps (x:Tmp×Value)=>tmps.setIfInBounds x.1 x.2) r.tmps)=(params.zip eV).foldl (fun tmps (x:Tmp×Value)=>tmps.setIfInBounds x.1 x.2) r.tmps:=by
   rw [<-Array.foldl_toList]
   congr 1
   rw [Array.toList_zip,UN]
  rw [aNV];refine Dq hc hr hm (aCM hc hr hm _ EU) assign (ro:=some L.b) hk ⟨⟨Mn,rfl⟩,h,⟨rfl,by simp⟩⟩ (.inr ⟨l,L,rfl,hL,rfl⟩) ?_
  rintro e a' w' ⟨U1,ae,A1,S1,rfl,g1,g2,g3⟩
  unfold aH1 at g1;cases ae with
  | exit id=>cases g1
  | ret=>cases g1
  | normal=>
   simp only at g1;obtain⟨o1,ho1,g1⟩:=oY g1;have hL1:=g3.ext _ _ hL;split at g1
   ·rename_i tm ps as bo pe1
    obtain⟨r1,By,aHk,aNW,aNX,aNY,aNZ,aN0,aN1⟩:=xY g2.rel ho1 hL1;obtain⟨q1,q2,q3⟩:=VC g2.rel ho1 hL1 By aHk aNY aNZ aN0 aN1 .busy pe1;rw [gU]at g1;refine⟨w'.putObj L.b (.loop {r1 with state:= .busy,pending:=pe1}),?_,?_⟩
    ·have q3':(setObj L.b (.loop {r1 with state:= .busy})).run E.P w'= .ok () (w'.putObj L.b (.loop {r1 with state:= .busy,pending:=pe1})):=by
      rw [<-aNX]at q3 ⊢;exact q3
     simp only [Instr.beginRound,cP,run_getLoop aHk,eI,q3',aNW,kJ]
    ·rw [Zz]
     refine Dq hc hr hm (aCM hc hr hm _ EU) body (ro:=some L.b) g1 ⟨g2.act,q1,g2.marks⟩ (.inr ⟨l,L,rfl,hL1,rfl⟩) ?_
     rintro e2 a2 w2 ⟨U2,ae2,A2,S2,rfl,k1,k2,k3⟩
     unfold aLs at k1;obtain⟨o2,BN,k1⟩:=oY k1;have hL2:=k3.ext _ _ hL1;split at k1
     ·rename_i tm2 ps2 as2 bo2 st2 pe2
      obtain⟨r2,MP,aHl,aSI,aSJ,aN2,aN3,aN4,aN5⟩:=xY k2.rel BN hL2
      have fin:∀(Kz:LoopState) (jump:Option Code) (bv:Bool),K (.bool bv) (S2.set l (.loop tm2 ps2 as2 bo2 Kz jump))=true->bv=jump.isNone->Kz=(if jump.isNone then .ready else .done)->
       ∃v w',(Instr.endRound L.b jump).run E.P w2= .ok v w'/\aFx E.P w0 U w K (.returned v) w':=by
       intro Kz jump bv hK hbv aHm;obtain⟨z1,z2,z3⟩:=VC k2.rel BN hL2 MP aHl aN2 aN3 aN4 aN5 Kz jump;refine⟨.bool bv,_,?_,.bool bv,rfl,U2,.bool bv,_,hK,.flat rfl,z1,((g3.trans q2).trans k3).trans z2⟩;rw [aHm]at z3 ⊢;simp only [Instr.endRound,cP,run_getLoop aHl,eI,z3,kJ,hbv]
      cases ae2 with
      | normal=>
       simp only [gU]at k1;exact fin .ready none true k1 rfl rfl
      | ret=>
       simp only [gU]at k1;exact fin .done (some .ret) false k1 rfl rfl
      | exit id=>
       simp only [gU]at k1;exact fin .done (some (.exit id)) false k1 rfl rfl
     ·cases k1
   ·cases g1
 ·cases hk
theorem aOu (P:Program) (tb:FuncId->sN) (ov:FuncId->Option (List Value->St->VK->Bool)) (most n:Nat):(aF1 P tb ov most n).P=P:=by cases n<;>rfl
theorem aCN{ov:FuncId->Option (List Value->St->VK->Bool)}{most:Nat} (hov:Cs P w0 ov) (KK:∀(f:FuncId) (fn:Func),P.funcs[f]? =some fn->fn.name≠ "runtime.NumGoroutine") (hm:P.follows .mixedOrders=true):∀n,kY P w0 (aF1 P tb ov most n).call/\oA P w0 (aF1 P tb ov most n).round:=by
 intro n;induction n with
 | zero=>
  refine⟨?_,?_⟩
  ·intro f args S K U w eV hk;cases hk
  ·intro l args S K U w eV L hk;cases hk
 | succ n ih=>
  obtain⟨ih1,ih2⟩:=ih;have hP:=aOu P tb ov most n;refine⟨fun f args S K U w eV hk h ha=>?_,?_⟩
  ·have hk:(match(generalizing:=false) ov f with | some g=>g args S K | none=>fnX P tb f (aF1 P tb ov most n) args S K)=true:=hk
   split at hk
   ·rename_i g hg
    exact hov f g hg f args S K U w eV (by simpa using hk) h ha
   ·exact aF2 (tb:=tb) hP ih1 ih2 hm KK f args S K U w eV hk h ha
  ·exact Xl hP ih1 ih2 hm
end
end Go.Am
namespace Go.Am
def cA (l:List (Nat×List Nat×List Nat×List Nat)) (i:Nat):List Nat×List Nat×List Nat:=gX (β:=List Nat×List Nat×List Nat) ([],[],[]) (fun p _ ih=>gE (Nat.beq p.1 i) p.2 ih) l
def cB (l:List (Nat×List Nat)) (i:Nat):Option (List Nat):=gX (β:=Option (List Nat)) none (fun p _ ih=>gE (Nat.beq p.1 i) (some p.2) ih) l
def aQZ (l:List (Nat×sN)) (f:FuncId):sN:=gX (β:=sN) ⟨fun _=>([],[],[]),fun _=>none⟩ (fun p _ ih=>gE (Nat.beq p.1 f) p.2 ih) l
section
variable{P:Program}
theorem aCI (off b o:Nat) (K:Value->Bool):aHI off (.pointer (some ⟨b,o,none⟩)) K=K (.pointer (some ⟨b,o+off,none⟩)):=by
 show bX (o+off) (fun o=>K (.pointer (some ⟨b,o,none⟩)))=_;rw [bJ]
theorem aOp (i:Nat) (vs:List Value) (K:Value->Bool):aHP i (.tuple ⟨vs⟩) K=YB vs i fun v=>K v:=rfl
theorem Xg{α:Type}{l:List α}{i:Nat}{v:α} (h:l[i]? =some v) (k:α->Bool):YB l i k=k v:=by
 induction l generalizing i with
 | nil=>cases h
 | cons a l ih=>
  cases i with
  | zero=>simp at h;subst h;rfl
  | succ i=>exact ih (by simpa using h)
theorem aLp (l:List UInt8) (K:Value->Bool):aA1 (.string ⟨⟨l⟩⟩) K=K (.int .i64 (.ofNat l.length)):=nY _ _
theorem aOq (k j:IntKind) (n:Int) (K:Value->Bool):aHO k (.int j n) K=K (.int k (sM k n)):=by
 show DC (sM k n) (fun n=>K (.int k n))=_;rw [nZ]
theorem KW{S:St}{i:Nat}{vs:List Value}{e:TypeId}{c:CK} (h:S.obj i=some (.cells vs e c)) (k:List Value->TypeId->CK->Bool):DD S i k=k vs e c:=by
 unfold DD;rw [nE];have h:S.h.get i=some (.cells vs e c):=h;rw [h]
theorem aHV{S:St}{i o:Nat}{vs:List Value}{e:TypeId}{c:CK}{v:Value} (h:S.obj i=some (.cells vs e c)) (hv:vs[o]? =some v) (K:VK):rLd (.pointer (some ⟨i,o,none⟩)) S K=K v S:=by
 show DD S i (fun vs _ _=>YB vs o fun v=>K v S)=_;rw [KW h,Xg hv]
theorem XK{S:St}{i o n:Nat}{vs:List Value}{e:TypeId}{c:CK} (h:S.obj i=some (.cells vs e c)) (hn:o+n<=vs.length) (k:List Value->Bool):OH S i o n k=k ((vs.drop o).take n):=by
 show DD S i (fun vs _ _=>MI o vs fun l=>UI n l k)=_;rw [KW h,DJ,aO (by omega),GZ,aO (by simp;omega)]
theorem aCJ{S:St}{i o n:Nat}{vs:List Value}{e:TypeId}{c:CK} (h:S.obj i=some (.cells vs e c)) (hn:o+n<=vs.length) (K:VK):aHH n (.pointer (some ⟨i,o,none⟩)) S K=K (.agg ⟨(vs.drop o).take n⟩) S:=by
 show OH S i o n (fun l=>K (.agg ⟨l⟩) S)=_;rw [XK h hn]
theorem aHW{cs:List Value}{off:Nat}{v:Value} (h:cs[off]? =some v) (K:Value->Bool):Nx off (.agg ⟨cs⟩) K=K v:=by
 show YB cs off K=_;rw [Xg h]
theorem aFY{cs:List Value}{off n:Nat} (h:off+n<=cs.length) (K:Value->Bool):Dj off n (.agg ⟨cs⟩) K=K (.agg ⟨(cs.drop off).take n⟩):=by
 show MI off cs (fun l=>UI n l fun l=>K (.agg ⟨l⟩))=_;rw [DJ,aO (by omega),GZ,aO (by simp;omega)]
theorem aA4{v:Value} (h:kU v=true) (k:List Value->Bool):pM v k=k [v]:=by cases v<;>first | rfl | cases h
theorem aHX (z:List Value) (t:TypeId) (S:St) (K:VK):Gy z t S K=K (.pointer (some ⟨S.n,0,none⟩)) (S.new (.cells z t .exact)):=by
 unfold Gy aKT
 have:∀(z:List Value) (k:List Value->Bool),gX (β:=(List Value->Bool)->Bool) (fun k=>k []) (fun a _ ih k=>ih fun t=>k (a::t)) z k=k z:=by
  intro z;induction z with
  | nil=>intro k;rfl
  | cons a z ih=>intro k;exact ih _
 rw [this,jF]
theorem aOr (op:BinOp) (t:TypeId) (k:IntKind) (a b:Int) (K:Value->Bool) (h1:op≠ .shl) (h2:op≠ .shr):aHN P op t (.int k a) (.int k b) K=QG op k a b K:=by
 rw [RA];have hk:FF k k=true:=by cases k<;>rfl
 cases op<;>first | exact bC rfl h1 | exact bC rfl h2 | (show(match FF k k with | true=>_ | false=>false)=_;rw [hk])
theorem aFZ{n:Nat} (h:n<9223372036854775808):sM .i64 (.ofNat n)= .ofNat n:=by
 show(match Nat.blt n 9223372036854775808 with | true=>_ | false=>_)=_;have:Nat.blt n 9223372036854775808=true:=nO h;rw [this]
theorem aLq (b:Bool) (K:Value->Bool):unK .not (.bool b) K=K (.bool (!b)):=by
 show Al (!b) (fun b=>K (.bool b))=_;rw [pJ]
theorem iB{S:St}{o:jB}{i:Nat} (h:i≠S.n):(S.new o).obj i=S.obj i:=by rw [XH,aG h]
theorem uV{S:St}{o:jB}:(S.new o).obj S.n=some o:=by rw [XH,aO rfl]
theorem Xh{S:St}{i:Nat}{o:jB}:(S.set i o).obj i=some o:=by rw [GM,aO rfl]
theorem lE{S:St}{i j:Nat}{o:jB} (h:j≠i):(S.set i o).obj j=S.obj j:=by rw [GM,aG h]
theorem aF0 (j:IntKind) (z:Int):SM (.int j z) (.int j z)=true:=by
 have h1:FF j j=true:=by cases j<;>rfl
 show(FF j j&&eqI z z)=true;rw [h1,QM];simp
def Xi (l:List UInt8):List Value:=l.map fun b=> .int .u8 (.ofNat b.toNat)
structure Src (S:St) (size:Nat) (x:Value) (n:Nat) (new:List Value):Prop where
 len:∀k,RZ x k=k n
 first:∀k,n≠0->NU S size n x k=k new
 one:∀v∈new,kU v=true
theorem Src.text (S:St) (l:List UInt8):Src S 1 (.string ⟨⟨l⟩⟩) l.length (Xi l):=by
 refine⟨fun k=>nY _ _,fun k h=>?_,fun v hv=>?_⟩
 ·show UI l.length l (fun l=>aG2 l k)=_
  rw [GZ,aO (bQ _),List.take_length,Vu];rfl
 ·obtain⟨b,_,rfl⟩:=List.mem_map.1 hv
  rfl
theorem Src.row{S:St}{i o n c size:Nat}{vs:List Value}{e:TypeId}{ck:CK} (h:S.obj i=some (.cells vs e ck)) (hn:o+n*size<=vs.length) (h1:∀v∈(vs.drop o).take (n*size),kU v=true):Src S size (.slice (some ⟨i,o,none⟩) n c) n ((vs.drop o).take (n*size)):=by
 refine⟨fun k=>rfl,fun k hz=>?_,h1⟩;obtain⟨m,rfl⟩:=bH hz;show OH S i o ((m+1)*size) k=_;rw [XK h hn]
theorem aHY{elem size bytes n:Nat}{S:St}{x:Value}{new:List Value} (hx:Src S size x n new) (hz:n≠0) (hb:(n*bytes<=140737488355328/\n<=140737488355328)) (K:VK):
 aCE P elem size bytes (.slice none 0 0) x S K=K (.slice (some ⟨S.n,0,some 0⟩) n n) (S.new (.cells new elem (.grown []))):=by
 obtain⟨m,rfl⟩:=bH hz;show RZ x _=_;rw [hx.len];show NU S size (m+1) x _=_;rw [hx.first _ hz];simp only [bJ,eJ];rw [show Cc (m+1) bytes=true from Mb hb];have:Nat.ble (m+1) 0=false:=rfl;simp only [this];show SC elem [] new (m+1) none S K=_;unfold SC;rw [nF];simp only [Ab,jF]
theorem aHZ{elem size bytes n m j:Nat}{S:St}{x:Value}{new vs:List Value}{olds:List Nat} (hx:Src S size x n new) (hz:n≠0) (hb:((m+n)*bytes<=140737488355328/\(m+n)<=140737488355328))
 (hj:S.obj j=some (.cells vs elem (.grown olds))) (hv:vs.length=m*size) (hs:cM P elem=some size) (K:VK):
 aCE P elem size bytes (.slice (some ⟨j,0,some 0⟩) m m) x S K=K (.slice (some ⟨S.n,0,some 0⟩) (m+n) (m+n)) ((S.set j (.cells vs elem .uD)).new (.cells (vs++new) elem (.grown (j::olds)))):=by
 obtain⟨p,rfl⟩:=bH hz;show RZ x _=_;rw [hx.len];show NU S size (p+1) x _=_;rw [hx.first _ hz];simp only [bJ];rw [show Cc (m+(p+1)) bytes=true from Mb hb]
 have:Nat.ble (m+(p+1)) m=false:=by
  cases h:Nat.ble (m+(p+1)) m with
  | false=>rfl
  | true=>have:=cJ h;omega
 simp only [this];show DD S j _=_;rw [KW hj];simp only [nY,eJ,hv,hs];have QK:xP kU new=true:=by rw [nD];exact List.all_eq_true.2 hx.one
 simp only [show Nat.beq (m*size) (m*size)=true from Ag _,show Nat.beq size size=true from Ag _,show Nat.beq elem elem=true from Ag _,QK];rw [XK hj (by omega)];rw [xO,<-hv,List.take_length];show SC elem vs new (m+(p+1)) (some (j,vs,elem,olds)) S K=_;unfold SC;rw [nF];simp only [gU,jF];rfl
end
inductive Tag where
 | root (n:Nat)
 | sub (t:Tag) (k:Nat)
 | cut (t:Tag) (o n c:Nat)
inductive Dt where
 | int (k:IntKind) (z:Int)
 | bool (b:Bool)
 | str (l:List UInt8)
 | list (cs:List Dt) (n:Nat)
inductive V where
 | int (k:IntKind) (z:Int)
 | bool (b:Bool)
 | str (l:List UInt8)
 | list (O:Tag) (cs:List Dt) (n:Nat)
 | uB (O:Tag) (cs:List Dt) (o:Nat)
 | nil
 | acc (i n:Nat)
 | wL (i n o:Nat)
 | HW (i n o k c:Nat)
 | emp (i n:Nat)
 | own (i o n c:Nat)
 | ptr (i o:Nat)
 | Ka
 | func (f:FuncId) (a c:List V)
 | yield (l:Nat)
 | KJ (s:String) (v:V)
 | iface (t:TypeId) (v:V)
 | Sj
 | Hh
 | yZ (i:Nat)
 | Pg
 | agg (cs:List V)
 | tuple (cs:List V)
def T (O:Tag):Dt->V
 | .int k z=> .int k z
 | .bool b=> .bool b
 | .str l=> .str l
 | .list cs n=> .list O cs n
def Tl (O:Tag):Nat->List Dt->List V
 | _,[]=>[]
 | o,d::l=>T (.sub O o) d::Tl O (o+1) l
inductive Ob where
 | row (vs:List V) (t:TypeId)
 | gD (vs:List V) (t:TypeId) (n:Nat)
 | map (es:List (V×V))
 | wP (es:List (V×V)) (bs:List Nat) (ck:Nat)
 | iter (m since:Nat) (seen:List Nat) (last:Nat)
 | loop (ls:List Nat) (vs:List V) (n:Nat) (ps:List Tmp) (as bo:Code) (st:LoopState) (pe:Option Code)
def Ph:Ob->Bool
 | .gD _ _ _=>true
 | _=>false
abbrev Hp:=Nat->Option Ob
def aL (S:Hp) (i:Nat) (o:Ob):Hp:=fun j=>if j=i then some o else S j
def bU (S' S:Hp):Prop:=∀i o,S' i=some o->S i=some o
abbrev KV:=V->Hp->Prop
def gB:V->Bool
 | .agg _=>false
 | .tuple _=>false
 | _=>true
def ofV:Value->Option V
 | .int k z=>some (.int k z)
 | .bool b=>some (.bool b)
 | .string ⟨⟨l⟩⟩=>some (.str l)
 | .pointer none=>some .Ka
 | .slice none 0 0=>some .nil
 | .nilIface=>some .Sj
 | .nilFunc=>some .Hh
 | .map none=>some .Pg
 | _=>none
def LB:List Value->Option (List V)
 | []=>some []
 | v::l=>match ofV v with
  | some x=>match LB l with | some xs=>some (x::xs) | none=>none
  | none=>none
def WM:V:= .tuple []
def Em{α:Type} (l:List α) (i:Nat) (k:α->Prop):Prop:=match l[i]? with | some a=>k a | none=>False
def WN{α:Type} (l:List α) (o n:Nat) (k:List α->Prop):Prop:=o+n<=l.length/\k ((l.drop o).take n)
def iR (c:V) (a b:Prop):Prop:=match c with
 | .bool v=>match v with | true=>a | false=>b
 | _=>False
def fK (c a b:V) (K:V->Prop):Prop:=match c with
 | .bool v=>match v with | true=>K a | false=>K b
 | _=>False
def aW (a:V) (S:Hp) (K:KV):Prop:=match a with
 | .ptr i o=>match S i with
  | some (.row vs _)=>Em vs o fun v=>K v S
  | _=>False
 | .uB O cs o=>Em cs o fun d=>K (T (.sub O o) d) S
 | .wL i n o=>match S i with
  | some (.gD vs _ m)=>m=n/\Em vs o fun v=>K v S
  | _=>False
 | _=>False
def bR (n:Nat) (a:V) (S:Hp) (K:KV):Prop:=match a with
 | .ptr i o=>match S i with
  | some (.row vs _)=>WN vs o n fun l=>K (.agg l) S
  | _=>False
 | .uB O cs o=>WN cs o n fun l=>K (.agg (Tl O o l)) S
 | .wL i m o=>match S i with
  | some (.gD vs _ m')=>m'=m/\WN vs o n fun l=>K (.agg l) S
  | _=>False
 | _=>False
def wM (v:V) (k:List V->Prop):Prop:=match v with
 | .agg cs=>cs.all gB=true/\k cs
 | .tuple _=>False
 | v=>k [v]
def nI (n:Nat) (a x:V) (S:Hp) (k:Hp->Prop):Prop:=match a with
 | .ptr i o=>match S i with
  | some (.row vs t)=>wM x fun cs=>cs.length=n/\o+n<=vs.length/\k (aL S i (.row (bA o cs vs) t))
  | _=>False
 | .wL i q o=>match S i with
  | some (.gD vs t m)=>m=q/\wM x fun cs=>cs.length=n/\o+n<=vs.length/\k (aL S i (.gD (bA o cs vs) t m))
  | _=>False
 | _=>False
def aJf (vs:List V) (t:TypeId) (S:Hp) (K:Nat->Hp->Prop):Prop:=∀i,S i=none->K i (aL S i (.row vs t))
def rR (z:List Value) (k:List V->Prop):Prop:=match LB z with | some l=>k l | none=>False
def dQ (z:List Value) (t:TypeId) (S:Hp) (K:KV):Prop:=rR z fun l=>aJf l t S fun i S=>K (.ptr i 0) S
def iG (t:TypeId) (v:V) (S:Hp) (K:KV):Prop:=wM v fun cs=>aJf cs t S fun i S=>K (.ptr i 0) S
def iF:List (Nat×Nat×V)->List V->(List V->Prop)->Prop
 | [],cs,k=>k cs
 | (o,n,v)::ps,cs,k=>wM v fun new=>new.length=n/\o+n<=cs.length/\iF ps (bA o new cs) k
def cS (zero:List Value) (ps:List (Nat×Nat×V)) (K:V->Prop):Prop:=rR zero fun z=>iF ps z fun cs=>K (.agg cs)
def aS (el:TypeId) (n:Nat) (zero:List Value) (ps:List (Nat×Nat×V)) (S:Hp) (K:KV):Prop:=
 rR zero fun z=>iF ps (List.replicate n z).flatten fun cs=>aJf cs el S fun i S=>K (.own i 0 n n) S
def aV (off:Nat) (x:V) (K:V->Prop):Prop:=match x with
 | .ptr i o=>K (.ptr i (o+off))
 | .uB O cs o=>K (.uB O cs (o+off))
 | .wL i n o=>K (.wL i n (o+off))
 | _=>False
def aC8 (off:Nat) (x:V) (K:V->Prop):Prop:=match x with
 | .agg cs=>Em cs off K
 | _=>False
def Yj (off n:Nat) (x:V) (K:V->Prop):Prop:=match x with
 | .agg cs=>WN cs off n fun l=>K (.agg l)
 | _=>False
def cV (size:Nat) (x ix:V) (K:V->Prop):Prop:=match ix with
 | .int _ (.ofNat i)=>match x with
  | .list O cs n=>i<n/\K (.uB O cs (i*size))
  | .own b o n _=>i<n/\K (.ptr b (o+i*size))
  | .acc b n=>i<n/\K (.wL b n (i*size))
  | .HW b n o m _=>i<m/\K (.wL b n (o+i*size))
  | _=>False
 | _=>False
def aC9 (x ix:V) (K:V->Prop):Prop:=match ix with
 | .int _ (.ofNat i)=>match x with
  | .str l=>Em l i fun b=>K (.int .u8 (.ofNat b.toNat))
  | _=>False
 | _=>False
def vB (i:Nat) (x:V) (K:V->Prop):Prop:=match x with
 | .tuple vs=>Em vs i K
 | _=>False
def LE (k:IntKind) (x:V) (K:V->Prop):Prop:=match x with
 | .int _ n=>K (.int k (sM k n))
 | _=>False
def bP (x:V) (K:V->Prop):Prop:=match x with
 | .list _ _ n=>K (.int .i64 (.ofNat n))
 | .nil=>K (.int .i64 (.ofNat 0))
 | .acc _ n=>K (.int .i64 (.ofNat n))
 | .own _ _ n _=>K (.int .i64 (.ofNat n))
 | .HW _ _ _ k _=>K (.int .i64 (.ofNat k))
 | .emp _ _=>K (.int .i64 (.ofNat 0))
 | _=>False
def aJg (x:V) (K:V->Prop):Prop:=match x with
 | .str l=>K (.int .i64 (.ofNat l.length))
 | _=>False
def Sa (size:Nat) (x:V) (S:Hp) (k:Nat->List V->Prop):Prop:=match x with
 | .nil=>k 0 []
 | .list O cs n=>n*size<=cs.length/\k n (Tl O 0 (cs.take (n*size)))
 | .own i o n _=>match S i with
  | some (.row vs _)=>WN vs o (n*size) fun l=>k n l
  | _=>False
 | .acc i n=>match S i with
  | some (.gD vs _ m)=>m=n/\vs.length=n*size/\k n vs
  | _=>False
 | .HW i n o q _=>match S i with
  | some (.gD vs _ m)=>m=n/\WN vs o (q*size) fun l=>k q l
  | _=>False
 | .emp _ _=>k 0 []
 | .str l=>size=1/\k l.length (l.map fun b=> .int .u8 (.ofNat b.toNat))
 | _=>False
def aNz (el:TypeId) (vs:List V) (n:Nat) (S:Hp) (K:KV):Prop:=∀i,S i=none->K (.acc i n) (aL S i (.gD vs el n))
def jW (el:TypeId) (size bytes:Nat) (s x:V) (S:Hp) (K:KV):Prop:=Sa size x S fun m new=>match m with
 | 0=>(match s with | .nil=>K s S | .acc _ _=>K s S | .own _ _ n c=>n<=c/\K s S | .list _ _ _=>K s S | _=>False)
 | m+1=>new.all gB=true/\match s with
  | .nil=>((m+1)*bytes<=140737488355328/\(m+1)<=140737488355328)/\aNz el new (m+1) S K
  | .acc i n=>match S i with
   | some (.gD vs t n')=>n'=n/\t=el/\vs.length=n*size/\((n+(m+1))*bytes<=140737488355328/\(n+(m+1))<=140737488355328)/\K (.acc i (n+(m+1))) (aL S i (.gD (vs++new) el (n+(m+1))))
   | _=>False
  | .own i o n c=>match S i with
   | some (.row vs t)=>((n+(m+1))*bytes<=140737488355328/\(n+(m+1))<=140737488355328)/\o+n*size<=vs.length/\
    (n+(m+1)<=c->o+n*size+new.length<=vs.length/\K (.own i o (n+(m+1)) c) (aL S i (.row (bA (o+n*size) new vs) t)))/\
    (c<n+(m+1)->aNz el ((vs.drop o).take (n*size)++new) (n+(m+1)) S K)
   | _=>False
  | _=>False
def nP (P:Program) (v:V) (K:V->Prop):Prop:=match v with
 | .ptr i o=>K (.ptr i o)
 | .uB O cs o=>K (.uB O cs o)
 | .wL i n o=>K (.wL i n o)
 | .func f a c=>K (.func f a c)
 | .iface t w=>K (.iface t w)
 | .KJ s v=>match v with
  | .iface t w=>match KE P t s with
   | some _=>K (.KJ s (.iface t w))
   | none=>False
  | _=>False
 | _=>False
abbrev aNA:=FuncId->List V->Hp->KV->Prop
def aRu (P:Program) (call:aNA) (r:V) (m:String) (args:List V) (S:Hp) (K:KV):Prop:=match r with
 | .iface t v=>match KE P t m with
  | some g=>call g (v::args) S K
  | none=>False
 | _=>False
def ZK (l:Nat) (S:Hp) (k:Hp->Prop):Prop:=match S l with
 | some (.loop ls vs n ps as bo .ready pe)=>k (aL S l (.loop ls vs n ps as bo .busy pe))
 | _=>False
def IX (l:Nat) (st:LoopState) (pe:Option Code) (b:Bool) (S:Hp) (K:KV):Prop:=match S l with
 | some (.loop ls vs n ps as bo _ _)=>K (.bool b) (aL S l (.loop ls vs n ps as bo st pe))
 | _=>False
def Uo (l:Nat) (S:Hp) (k:Option Code->Hp->Prop):Prop:=match S l with
 | some (.loop ls vs n ps as bo st pe)=>match st with
  | .busy=>False
  | _=>k pe (aL S l (.loop ls vs n ps as bo .exhausted pe))
 | _=>False
def SX (pe:Option Code) (kn kr:Prop) (ke:Nat->Prop):Prop:=match pe with
 | none=>kn
 | some .ret=>kr
 | some (.exit id)=>ke id
 | _=>False
def RF (l:Nat) (S:Hp) (p:Prop):Prop:=match S l with
 | some (.loop _ _ _ _ _ _ _ _)=>p
 | _=>False
abbrev ZL (i id:Nat) (a b:Prop):Prop:=Bool.rec (motive:=fun _=>Prop) b a (Nat.beq i id)
def Ll:V->Bool
 | .int _ _ | .bool _ | .str _ | .list _ _ _ | .nil | .ptr _ _ | .Ka | .uB _ _ _ | .wL _ _ _ | .acc _ _ | .HW _ _ _ _ _ | .own _ _ _ _ | .yZ _ | .Pg | .Sj | .Hh=>true
 | _=>false
def Lm:V->Bool
 | .func _ a c=>a.all Ll&&c.all Ll
 | v=>Ll v
def Ln:V->Bool
 | .agg cs=>cs.all Lm
 | v=>Lm v
def DU:V->Bool
 | .tuple cs=>cs.all Ln
 | v=>Ln v
def aU (v u:V) (k:Prop):Prop:=v=u/\DU v=true/\k
def aJh (w:Bool) (v:V) (k:Bool->Prop):Prop:=match v with
 | .bool b=>match b,w with | true,true=>k true | false,false=>k true | _,_=>k false
 | .tuple []=>k false
 | _=>False
def aH (w:Bool) (v:V) (op:KV->Prop) (S:Hp) (k:KV):Prop:=aJh w v fun b=>match b with | true=>op k | false=>k WM S
def aRv (u:V) (k:Prop):Prop:=match u with | .tuple []=>k | _=>False
def fW (w:Bool) (v u:V) (op:Prop->Prop) (k:Prop):Prop:=aJh w v fun b=>match b with | true=>op k | false=>aRv u k
def aI (most:Nat) (p:Prop):Prop:=Nat.rec (motive:=fun _=>Prop->Prop) (fun x=>x) (fun _ _ x=>x) most p
theorem aE (most:Nat) (p:Prop):aI most p=p:=by cases most<;>rfl
def SO (op:BinOp) (k:IntKind) (x y:Int) (K:V->Prop):Prop:=match op with
 | .add=>K (.int k (sM k (x+y)))
 | .sub=>K (.int k (sM k (x-y)))
 | .mul=>K (.int k (sM k (x*y)))
 | .quo=>y≠0/\K (.int k (sM k (x.tdiv y)))
 | .rem=>y≠0/\K (.int k (x.tmod y))
 | .and=>K (.int k (k.wrap (BitVec.ofInt k.bits x &&& BitVec.ofInt k.bits y).toNat))
 | .or=>K (.int k (k.wrap (BitVec.ofInt k.bits x ||| BitVec.ofInt k.bits y).toNat))
 | .xor=>K (.int k (k.wrap (BitVec.ofInt k.bits x ^^^ BitVec.ofInt k.bits y).toNat))
 | .andNot=>K (.int k (k.wrap (BitVec.ofInt k.bits x &&& ~~~ BitVec.ofInt k.bits y).toNat))
 | .eql=>K (.bool (decide (x=y)))
 | .neq=>K (.bool (!decide (x=y)))
 | .lss=>K (.bool (decide (x<y)))
 | .leq=>K (.bool (decide (x<=y)))
 | .gtr=>K (.bool (decide (y<x)))
 | .geq=>K (.bool (decide (y<=x)))
 | _=>False
def aPl (op:BinOp) (k:IntKind) (x y:Int) (K:V->Prop):Prop:=0<=y/\match op with
 | .shl=>K (.int k (sM k (x*2 ^ (min y.toNat k.bits))))
 | .shr=>K (.int k (x.fdiv (2 ^ (min y.toNat k.bits))))
 | _=>False
def aRw (op:BinOp) (a b:List UInt8) (K:V->Prop):Prop:=match op with
 | .add=>a.length+b.length<9223372036854775808/\K (.str (a++b))
 | .eql=>K (.bool (decide (a=b)))
 | .neq=>K (.bool (!decide (a=b)))
 | .lss=>K (.bool (Op.bytesLess a b))
 | _=>False
def aRx (op:BinOp) (a b:Bool) (K:V->Prop):Prop:=match op with
 | .eql=>K (.bool (decide (a=b)))
 | .neq=>K (.bool (!decide (a=b)))
 | _=>False
def yT:BinOp->Bool
 | .shl | .shr=>true
 | _=>false
def aET (P:Program) (t:TypeId):Bool:=match P.underlying t with | some .bool=>true | _=>false
inductive NK where
 | ptr
 | slice
 | map
 | func
 | iface
def Yk:V->Option (NK×Bool)
 | .ptr _ _=>some (.ptr,false)
 | .uB _ _ _=>some (.ptr,false)
 | .wL _ _ _=>some (.ptr,false)
 | .Ka=>some (.ptr,true)
 | .own _ _ _ _=>some (.slice,false)
 | .acc _ _=>some (.slice,false)
 | .HW _ _ _ _ _=>some (.slice,false)
 | .list _ (_::_) _=>some (.slice,false)
 | .nil=>some (.slice,true)
 | .yZ _=>some (.map,false)
 | .Pg=>some (.map,true)
 | .func _ _ _=>some (.func,false)
 | .KJ _ _=>some (.func,false)
 | .Hh=>some (.func,true)
 | .iface _ _=>some (.iface,false)
 | .Sj=>some (.iface,true)
 | _=>none
def Dx (P:Program) (t:TypeId):Option NK:=match P.underlying t with
 | some (.pointer _)=>some .ptr
 | some (.slice _)=>some .slice
 | some (.map _ _)=>some .map
 | some (.func _ _ _)=>some .func
 | some (.interface _)=>some .iface
 | _=>none
def aDa (P:Program) (op:BinOp) (t:TypeId) (a b:V) (K:V->Prop):Prop:=match a with
 | .list _ [] _=>match b with
  | .nil=>Dx P t=some .slice/\match op with
   | .eql=>K (.bool true)/\K (.bool false)
   | .neq=>K (.bool true)/\K (.bool false)
   | _=>False
  | _=>False
 | _=>False
def aDb (P:Program) (op:BinOp) (t:TypeId) (a b:V) (K:V->Prop):Prop:=match Yk a with
 | some (k,x)=>match Yk b with
  | some (l,y)=>k=l/\Dx P t=some k/\(x=true\/y=true)/\(x=true->y=true->k≠ .iface)/\match op with
   | .eql=>K (.bool (x&&y))
   | .neq=>K (.bool (!(x&&y)))
   | _=>False
  | none=>False
 | none=>aDa P op t a b K
def aJ (P:Program) (op:BinOp) (t:TypeId) (a b:V) (K:V->Prop):Prop:=match a with
 | .int j x=>match b with
  | .int k y=>match yT op with
   | true=>aPl op j x y K
   | false=>j=k/\SO op j x y K
  | _=>False
 | .str x=>match b with | .str y=>aRw op x y K | _=>False
 | .bool x=>match b with | .bool y=>aET P t=true/\aRx op x y K | _=>False
 | a=>aDb P op t a b K
def Bg (big:Bool) (a b:V) (K:V->Prop):Prop:=match a with
 | .int j x=>match b with
  | .int _ y=>K (.int j (match big with | true=>max x y | false=>min x y))
  | _=>False
 | _=>False
inductive CT where
 | int (k:IntKind)
 | str
 | bool
inductive KSh where
 | one (c:CT)
 | many (l:List CT)
def Hl (P:Program) (t:TypeId):Option CT:=match P.underlying t with
 | some (.int k)=>some (.int k)
 | some .string=>some .str
 | some .bool=>some .bool
 | _=>none
def NB (P:Program):List Field->Option (List CT)
 | []=>some []
 | f::fs=>match Hl P f.type with
  | some c=>match NB P fs with
   | some l=>some (c::l)
   | none=>none
  | none=>none
def Pi (P:Program) (t:TypeId):Option KSh:=match Hl P t with
 | some c=>some (.one c)
 | none=>match QI P t with
  | some fs=>match NB P fs with
   | some l=>some (.many l)
   | none=>none
  | none=>none
def aGh:CT->V->Prop
 | .int k,.int j _=>j=k
 | .str,.str _=>True
 | .bool,.bool _=>True
 | _,_=>False
def Jb:List CT->List V->Prop
 | [],[]=>True
 | c::l,v::vs=>aGh c v/\Jb l vs
 | _,_=>False
def RK:KSh->V->Prop
 | .one c,v=>aGh c v
 | .many l,.agg cs=>Jb l cs
 | _,_=>False
open Classical in
def WO:List (V×V)->V->Option V
 | [],_=>none
 | e::es,a=>if a=e.1 then some e.2 else WO es a
open Classical in
def OB:List (V×V)->V->V->List (V×V)
 | [],a,x=>[(a,x)]
 | e::es,a,x=>if a=e.1 then(a,x)::es else e::OB es a x
def aPm (P:Program) (op:BinOp) (t:TypeId) (a b:V) (K:V->Prop):Prop:=match Pi P t with
 | some (.many l)=>match a with
  | .agg x=>match b with
   | .agg y=>Jb l x/\Jb l y/\match op with
    | .eql=>(x=y->K (.bool true))/\(x≠y->K (.bool false))
    | .neq=>(x=y->K (.bool false))/\(x≠y->K (.bool true))
    | _=>False
   | _=>False
  | _=>False
 | _=>False
def Eo (S:Hp) (K:KV):Prop:=∀i,S i=none->K (.yZ i) (aL S i (.map []))
def Ym (ok:Bool) (v:V) (is:Bool):V:=match ok with | true=> .tuple [v,.bool is] | false=>v
def Pj (sh:KSh) (z:V) (ok:Bool) (m a:V) (S:Hp) (K:KV):Prop:=match m with
 | .yZ i=>match S i with
  | some (.map es)=>RK sh a/\(∀e∈es,RK sh e.1)/\(∀v,WO es a=some v->K (Ym ok v true) S)/\(WO es a=none->K (Ym ok z false) S)
  | _=>False
 | _=>False
def AE (sh:KSh) (m a x:V) (S:Hp) (k:Hp->Prop):Prop:=match m with
 | .yZ i=>match S i with
  | some (.map es)=>RK sh a/\(∀e∈es,RK sh e.1)/\k (aL S i (.map (OB es a x)))
  | _=>False
 | _=>False
def Pk (x:V) (S:Hp) (K:KV):Prop:=match x with
 | .yZ i=>match S i with
  | some (.map es)=>K (.int .i64 (.ofNat es.length)) S
  | _=>False
 | _=>False
def Ep (r:V) (S:Hp) (K:KV):Prop:=match r with
 | .int _ _=>Eo S K
 | _=>False
def GS (x:V) (S:Hp) (K:KV):Prop:=match x with
 | .yZ m=>match S m with
  | some (.map es)=>∀bs ck,bs.length=es.length->bs.Pairwise (· < ·)->(∀b∈bs,b<ck)->∀i,aL S m (.wP es bs ck) i=none->K (.ptr i 0) (aL (aL S m (.wP es bs ck)) i (.iter m ck [] ck))
  | _=>False
 | _=>False
def LN (x:V) (S:Hp) (K:KV):Prop:=match x with
 | .ptr i 0=>match S i with
  | some (.iter m since seen last)=>match S m with
   | some (.wP es bs ck)=>(∀b∈bs,b<since)/\since<=last/\
    ((∀b∈bs,b∈seen)->K (.tuple [.bool false]) (aL S m (.map es)))/\
    ∀(j:Nat) (e:V×V) (b:Nat),es[j]? =some e->bs[j]? =some b->¬b∈seen->K (.tuple [.bool true,e.1,e.2]) (aL S i (.iter m since (seen++[b]) ck))
   | _=>False
  | _=>False
 | _=>False
def RM (x:V) (S:Hp) (K:KV):Prop:=match x with
 | .ptr i 0=>match S i with
  | some (.iter m _ seen last)=>match S m with
   | some (.wP es bs ck)=>ck=last/\bs.Pairwise (· < ·)/\∃(j:Nat) (e:V×V) (b:Nat),es[j]? =some e/\bs[j]? =some b/\seen.getLast?=some b/\K (.tuple [e.1,e.2]) S
   | _=>False
  | _=>False
 | _=>False
def Hd (d:Nat) (o:Option V) (k:Nat->Prop):Prop:=match o with
 | none=>k d
 | some (.int _ (.ofNat n))=>k n
 | _=>False
def LH (len cap:Nat) (lo hi mx:Option V) (k:Nat->Nat->Nat->Prop):Prop:=Hd cap mx fun m=>Hd len hi fun h=>Hd 0 lo fun l=>l<=h/\h<=m/\m<=cap/\k l h m
def aRy (x:V) (lo hi:Option V) (K:V->Prop):Prop:=match x with
 | .str s=>LH s.length s.length lo hi none fun l h _=>K (.str ((s.take h).drop l))
 | _=>False
def aRz (len size:Nat) (x:V) (lo hi mx:Option V) (K:V->Prop):Prop:=match x with
 | .ptr i o=>LH len len lo hi mx fun l h m=>K (.own i (if m=l then o else o+l*size) (h-l) (m-l))
 | _=>False
def LG (el size:Nat) (x:V) (lo hi mx:Option V) (S:Hp) (K:V->Prop):Prop:=match x with
 | .own i o n c=>LH n c lo hi mx fun l h m=>K (.own i (if m=l then o else o+l*size) (h-l) (m-l))
 | .list O cs n=>match mx with
  | some _=>LH n n lo hi mx fun l h m=>l<m/\h*size<=cs.length/\K (.list (.cut O (l*size) (h-l) (m-l)) ((cs.drop (l*size)).take ((h-l)*size)) (h-l))
  | none=>False
 | .nil=>LH 0 0 lo hi mx fun _ _ _=>K .nil
 | .acc i n=>match mx with
  | none=>match S i with
   | some (.gD _ t n')=>n'=n/\t=el/\LH n n lo hi none fun l h m=>(l<m->K (.HW i n (0+l*size) (h-l) (m-l)))/\(m=l->K (.emp i n))
   | _=>False
  | some _=>False
 | .HW i n o k c=>match mx with
  | none=>match S i with
   | some (.gD _ t n')=>n'=n/\t=el/\LH k c lo hi none fun l h m=>(l<m->K (.HW i n (o+l*size) (h-l) (m-l)))/\(m=l->K (.emp i n))
   | _=>False
  | some _=>False
 | _=>False
def Bj (zero:List Value) (x:V) (S:Hp) (k:Hp->Prop):Prop:=match x with
 | .nil=>k S
 | .own i o n _=>match n with
  | 0=>k S
  | n+1=>rR zero fun z=>match S i with
   | some (.row vs t)=>o+(List.replicate (n+1) z).flatten.length<=vs.length/\k (aL S i (.row (bA o (List.replicate (n+1) z).flatten vs) t))
   | _=>False
 | .acc i q=>match q with
  | 0=>k S
  | n+1=>rR zero fun z=>match S i with
   | some (.gD vs t m)=>m=q/\(List.replicate (n+1) z).flatten.length<=vs.length/\k (aL S i (.gD (bA 0 (List.replicate (n+1) z).flatten vs) t m))
   | _=>False
 | .HW i q o n _=>match n with
  | 0=>k S
  | n+1=>rR zero fun z=>match S i with
   | some (.gD vs t m)=>m=q/\o+(List.replicate (n+1) z).flatten.length<=vs.length/\k (aL S i (.gD (bA o (List.replicate (n+1) z).flatten vs) t m))
   | _=>False
 | _=>False
def Up (size:Nat) (d x:V) (S:Hp) (K:KV):Prop:=Sa size x S fun m new=>match d with
 | .own i o n _=>m<=n/\match m with
  | 0=>K (.int .i64 (.ofNat 0)) S
  | q+1=>new.all gB=true/\match S i with
   | some (.row vs t)=>o+new.length<=vs.length/\K (.int .i64 (.ofNat (q+1))) (aL S i (.row (bA o new vs) t))
   | _=>False
 | _=>False
def vMk (el:TypeId) (bytes:Nat) (zero:List Value) (l c:V) (S:Hp) (K:KV):Prop:=match l with
 | .int _ (.ofNat l)=>match c with
  | .int _ (.ofNat c)=>l<=c/\bytes*c<=1099511627776/\c<=65536/\rR zero fun z=>aJf (List.replicate c z).flatten el S fun i S=>K (.own i 0 l c) S
  | _=>False
 | _=>False
def SP (op:UnOp) (a:V) (K:V->Prop):Prop:=match op with
 | .not=>match a with | .bool b=>K (.bool (!b)) | _=>False
 | .neg=>match a with | .int k n=>K (.int k (sM k (Int.sub 0 n))) | _=>False
 | .xor=>match a with | .int k n=>K (.int k (k.wrap (BitVec.ofInt k.bits (if k.signed then-1 else k.max) ^^^ BitVec.ofInt k.bits n).toNat)) | _=>False
 | _=>False
section
variable{α β:Type}
abbrev LO (n:Nat) (z:β) (s:Nat->β):β:=Nat.rec (motive:=fun _=>β) z (fun p _=>s p) n
abbrev aJi (o:Option α) (z:β) (s:α->β):β:=Option.rec (motive:=fun _=>β) z s o
abbrev aEU (z:β) (s:Nat->β->β) (n:Nat):β:=Nat.rec (motive:=fun _=>β) z s n
abbrev NC (z:β) (s:α->List α->β->β) (l:List α):β:=List.rec (motive:=fun _=>β) z s l
abbrev aJj (z:β) (s:Option α->Tr α->Tr α->β->β->β) (t:Tr α):β:=Tr.rec (motive:=fun _=>β) z s t
abbrev aPn (t:Tr α) (z:β) (s:Option α->Tr α->Tr α->β):β:=Tr.rec (motive:=fun _=>β) z (fun v l r _ _=>s v l r) t
end
section
variable{α:Type}
abbrev aGk (t:Tr α) (n:Nat) (k:α->Prop):Prop:=
 aJj (β:=Nat->Prop) (fun _=>False) (fun v _ _ gl gr n=>LO n (aJi v False k) fun p=>LO (Nat.mod p 2) (gl (Nat.div p 2)) fun _=>gr (Nat.div p 2)) t n
abbrev aGl (x:α) (f:Nat):Tr α->Nat->(Tr α->Prop)->Prop:=
 aEU (β:=Tr α->Nat->(Tr α->Prop)->Prop) (fun t _ k=>k t)
  (fun _ ih t n k=>aPn t
   (LO n (k (.node (some x) .leaf .leaf)) fun p=>LO (Nat.mod p 2) (ih .leaf (Nat.div p 2) fun c=>k (.node none c .leaf)) fun _=>ih .leaf (Nat.div p 2) fun c=>k (.node none .leaf c))
   (fun v l r=>LO n (k (.node (some x) l r)) fun p=>LO (Nat.mod p 2) (ih l (Nat.div p 2) fun c=>k (.node v c r)) fun _=>ih r (Nat.div p 2) fun c=>k (.node v l c))) f
abbrev aGm (t:Tr α) (n:Nat) (k:Prop):Prop:=
 aJj (β:=Nat->Prop) (fun _=>k) (fun v _ _ gl gr n=>LO n (aJi v k fun _=>False) fun p=>LO (Nat.mod p 2) (gl (Nat.div p 2)) fun _=>gr (Nat.div p 2)) t n
abbrev aJk (t:Tr α) (n:Nat) (k:Tr α->Prop):Prop:=
 aJj (β:=Nat->(Tr α->Prop)->Prop) (fun _ k=>k .leaf) (fun v l r dl dr n k=>LO n (k (.node none l r)) fun p=>LO (Nat.mod p 2) (dl (Nat.div p 2) fun c=>k (.node v c r)) fun _=>dr (Nat.div p 2) fun c=>k (.node v l c)) t n k
end
structure Yo where
 t:Tr V
 n:Nat
structure VA where
 tmps:Yo
 g:Nat
abbrev Sl (T:Yo) (i:Nat) (k:V->Prop):Prop:=aGk T.t i k
abbrev ZM (v:V) (T:Yo) (i:Nat) (k:Yo->Prop):Prop:=match T with
 | ⟨t,n⟩=>match Nat.blt i n with
  | true=>aGl v (Nat.succ i) t i fun t=>k ⟨t,n⟩
  | false=>False
abbrev Po (A:VA) (d:Tmp) (v:V) (k:VA->Prop):Prop:=match A with
 | ⟨T,g⟩=>ZM v T d fun T=>k ⟨T,g⟩
abbrev aRB (n:Nat) (args:List V) (k:Yo->Prop):Prop:=
 NC (β:=Nat->Yo->Prop) (fun _ T=>k T) (fun a _ ih i T=>ZM a T i fun T=>ih (Nat.succ i) T) args 0 ⟨.leaf,n⟩
def ofC (v:Value):Option V:=match v with
 | .agg ⟨cs⟩=>match LB cs with | some l=>some (.agg l) | none=>none
 | v=>ofV v
structure EvV where
 f:VA->(V->Prop)->Prop
def AU (x:Operand):EvV:=match x with
 | .tmp t=>⟨fun A k=>Sl A.tmps t k⟩
 | .const v=>match ofC v with | some d=>⟨fun _ k=>k d⟩ | none=>⟨fun _ _=>False⟩
 | .global _=>⟨fun _ _=>False⟩
 | .func f=>⟨fun _ k=>k (.func f [] [])⟩
structure aRC where
 f:VA->(List V->Prop)->Prop
def aGn (xs:List Operand):aRC:=NC (β:=aRC) ⟨fun _ k=>k []⟩ (fun x _ ih=>⟨fun A k=>(AU x).f A fun v=>ih.f A fun vs=>k (v::vs)⟩) xs
structure PtV where
 f:VA->(List (Nat×Nat×V)->Prop)->Prop
def Hn (place:Nat->Option (Nat×Nat)) (ps:List (Nat×Operand)):PtV:=
 NC (β:=PtV) ⟨fun _ k=>k []⟩ (fun p _ ih=>match place p.1 with
  | some (off,size)=>⟨fun A k=>(AU p.2).f A fun v=>ih.f A fun l=>k ((off,size,v)::l)⟩
  | none=>⟨fun _ _=>False⟩) ps
inductive Du (S' S:Hp):V->Dt->Prop
 | int {k:IntKind} {z:Int}:Du S' S (.int k z) (.int k z)
 | bool {b:Bool}:Du S' S (.bool b) (.bool b)
 | str {l:List UInt8}:Du S' S (.str l) (.str l)
 | list {O:Tag} {cs:List Dt} {n:Nat}:Du S' S (.list O cs n) (.list cs n)
 | nil:Du S' S .nil (.list [] 0)
 | acc {i n:Nat} {vs:List V} {t:TypeId} {cs:List Dt} (h:S i=some (.gD vs t n)) (hn:S' i=none) (hl:vs.length=cs.length) (hr:∀(j:Nat) (v:V) (d:Dt),vs[j]? =some v->cs[j]? =some d->Du S' S v d):Du S' S (.acc i n) (.list cs n)
 | HW {i n o k c:Nat} {vs:List V} {t:TypeId} {cs:List Dt} (h:S i=some (.gD vs t n)) (hn:S' i=none) (hc:k<=c) (hl:o+cs.length<=vs.length) (hr:∀(j:Nat) (v:V) (d:Dt),vs[o+j]? =some v->cs[j]? =some d->Du S' S v d):Du S' S (.HW i n o k c) (.list cs k)
 | own {i o n c:Nat} {vs:List V} {t:TypeId} {cs:List Dt} (h:S i=some (.row vs t)) (hn:S' i=none) (hc:n<=c) (hl:o+cs.length<=vs.length) (hr:∀(j:Nat) (v:V) (d:Dt),vs[o+j]? =some v->cs[j]? =some d->Du S' S v d):Du S' S (.own i o n c) (.list cs n)
inductive Fz1 (S' S:Hp) (O:Tag):V->V->Prop
 | mF (v:V):Fz1 S' S O v v
 | ZG {v:V} {d:Dt} (h:Du S' S v d):Fz1 S' S O v (T O d)
def FzL (S' S:Hp) (O:Nat->Tag) (vs us:List V):Prop:=us.length=vs.length/\∀(j:Nat) (v u:V),vs[j]? =some v->us[j]? =some u->Fz1 S' S (O j) v u
inductive Fz (S' S:Hp) (O:Nat->Tag):V->V->Prop
 | one {v u:V} (h:Fz1 S' S (O 0) v u):Fz S' S O v u
 | agg {vs us:List V} (h:FzL S' S O vs us):Fz S' S O (.agg vs) (.agg us)
 | tup {vs us:List V} (h:FzL S' S O vs us):Fz S' S O (.tuple vs) (.tuple us)
 | aRD {as bs vs us:List V} (hl:bs.length=as.length) (h:FzL S' S (fun k=>O (k+(vs.length+1))) (as++vs) (bs++us)):Fz S' S O (.tuple (.agg as::vs)) (.tuple (.agg bs::us))
def bF (v:V) (S:Hp) (K:KV):Prop:=∃(S':Hp) (u:(Nat->Tag)->V),bU S' S/\(∀O,Fz S' S O v (u O))/\∀O,K (u O) S'
def cR (S:Hp) (k:Hp->Prop):Prop:=∃S',bU S' S/\k S'
structure VE where
 C:aNA
 R:Nat->List V->Hp->KV->Prop
 most:Nat
def VE.call (E:VE) (c:FuncId) (args:List V) (S:Hp) (K:KV):Prop:=∃(S':Hp) (us:(Nat->Tag)->List V),bU S' S/\(∀O,FzL S' S O args (us O))/\∀O,E.C c (us O) S' K
def mH (E:VE) (f:V) (args:List V) (S:Hp) (K:KV):Prop:=match f with
 | .func g a c=>E.call g (a++args++c) S K
 | .yield l=>E.R l args S K
 | _=>False
def OC (E:VE) (f:V) (ls:List Nat) (vs:List V) (n:Nat) (ps:List Tmp) (as bo:Code) (S:Hp) (k:Option Code->Hp->Prop):Prop:=match f with
 | .func g a c=>∀l,S l=none->E.call g (a++[.yield l]++c) (aL S l (.loop ls vs n ps as bo .ready none)) fun _ S=>Uo l S k
 | _=>False
structure OpV where
 f:VE->VA->Hp->KV->Prop
def EO:OpV:=⟨fun _ _ _ _=>False⟩
def aJl (P:Program) (c:Call):OpV:=
 match c.callee with
 | .builtin .len=>match c.argTypes.toList,c.args.toList with
  | [t],[a]=>match isSlice P t,P.underlying t with
   | some _,_=>⟨fun _ A S K=>(AU a).f A fun v=>bP v fun v=>K v S⟩
   | none,some .string=>⟨fun _ A S K=>(AU a).f A fun v=>aJg v fun v=>K v S⟩
   | none,some (.map _ _)=>⟨fun _ A S K=>(AU a).f A fun v=>Pk v S K⟩
   | _,_=>EO
  | _,_=>EO
 | .builtin .append=>match c.argTypes.toList,c.args.toList with
  | [sT,xT],[a,b]=>match isSlice P sT,Rc (P.underlying xT)with
   | some el,true=>match P.info? el with
    | some info=>match info.size,info.zero with
     | n+1,some z=>match Nat.beq z.cells.size (n+1),Nat.beq ((cM P el).getD 0) (n+1)with
      | true,true=>⟨fun _ A S K=>(AU a).f A fun a=>(AU b).f A fun b=>jW el (n+1) info.bytes a b S K⟩
      | _,_=>EO
     | _,_=>EO
    | none=>EO
   | _,_=>EO
  | _,_=>EO
 | .builtin .min=>match c.args.toList with
  | [a,b]=>⟨fun _ A S K=>(AU a).f A fun a=>(AU b).f A fun b=>Bg false a b fun v=>K v S⟩
  | _=>EO
 | .builtin .max=>match c.args.toList with
  | [a,b]=>⟨fun _ A S K=>(AU a).f A fun a=>(AU b).f A fun b=>Bg true a b fun v=>K v S⟩
  | _=>EO
 | .builtin .clear=>match c.argTypes.toList,c.args.toList with
  | [t],[a]=>match isSlice P t with
   | some el=>match cM P el,wY P el with
    | some (m+1),some zero=>match Nat.beq zero.length (m+1),xP bY zero with
     | true,true=>⟨fun _ A S K=>(AU a).f A fun a=>Bj zero a S fun S=>K WM S⟩
     | _,_=>EO
    | _,_=>EO
   | none=>EO
  | _,_=>EO
 | .builtin .copy=>match c.argTypes.toList,c.args.toList with
  | dT::_,[a,b]=>match isSlice P dT with
   | some el=>match cM P el with
    | some (m+1)=>⟨fun _ A S K=>(AU a).f A fun a=>(AU b).f A fun b=>Up (m+1) a b S K⟩
    | _=>EO
   | none=>EO
  | _,_=>EO
 | .builtin _=>EO
 | .value f=>⟨fun E A S K=>(aGn c.args.toList).f A fun args=>(AU f).f A fun f=>mH E f args S K⟩
 | .invoke r m=>⟨fun E A S K=>(aGn c.args.toList).f A fun args=>(AU r).f A fun v=>aRu P E.call v m args S K⟩
structure OvO where
 f:VA->(Option V->Prop)->Prop
def evO (x:Option Operand):OvO:=match x with
 | none=>⟨fun _ k=>k none⟩
 | some x=>⟨fun A k=>(AU x).f A fun v=>k (some v)⟩
def aNB (mx hi:Option Operand):Bool:=match mx,hi with | some _,none=>false | _,_=>true
def aDe (P:Program) (t:TypeId) (x:Operand) (lo hi mx:Option Operand):OpV:=
 match isSlice P t with
  | some el=>match cM P el with
   | some size=>⟨fun _ A S K=>(AU x).f A fun x=>(evO lo).f A fun lo=>(evO hi).f A fun hi=>(evO mx).f A fun mx=>LG el size x lo hi mx S fun v=>K v S⟩
   | none=>EO
  | none=>match P.underlying t with
   | some .string=>match mx with
    | none=>⟨fun _ A S K=>(AU x).f A fun x=>(evO lo).f A fun lo=>(evO hi).f A fun hi=>aRy x lo hi fun v=>K v S⟩
    | some _=>EO
   | some (.array len el)=>match cM P el with
    | some size=>⟨fun _ A S K=>(AU x).f A fun x=>(evO lo).f A fun lo=>(evO hi).f A fun hi=>(evO mx).f A fun mx=>aRz len size x lo hi mx fun v=>K v S⟩
    | none=>EO
   | _=>EO
def Bl (P:Program) (t:TypeId) (l c:Operand):OpV:=
 match isSlice P t with
  | some el=>match P.info? el,wY P el with
   | some info,some zero=>match Nat.beq zero.length info.size,info.size,xP bY zero with
    | true,_+1,true=>⟨fun _ A S K=>(AU l).f A fun l=>(AU c).f A fun c=>vMk el info.bytes zero l c S K⟩
    | _,_,_=>EO
   | _,_=>EO
  | none=>EO
def Yp (P:Program) (t:TypeId) (x ix:Operand) (ok:Bool):OpV:=match ID P t with
 | some (kt,et)=>match Pi P kt,zeroV P et with
  | some sh,some z=>match ofC z with
   | some z=>⟨fun _ A S K=>(AU x).f A fun x=>(AU ix).f A fun ix=>Pj sh z ok x ix S K⟩
   | none=>EO
  | _,_=>EO
 | none=>EO
def Yq (P:Program) (t:TypeId) (m a x:Operand):OpV:=match ID P t with
 | some (kt,_)=>match Pi P kt with
  | some sh=>⟨fun _ A S K=>(AU m).f A fun m=>(AU a).f A fun a=>(AU x).f A fun x=>AE sh m a x S fun S=>K WM S⟩
  | none=>EO
 | none=>EO
def aBv (P:Program) (t:TypeId):Bool:=match P.underlying t with | some (.interface _)=>false | some _=>true | none=>false
def opV (P:Program) (o:Oper):OpV:=
 match o.op with
 | .move x=>⟨fun _ A S K=>(AU x).f A fun v=>K v S⟩
 | .assign x=>⟨fun _ A S K=>(AU x).f A fun v=>K v S⟩
 | .pick c a b=>⟨fun E A S K=>(AU c).f A fun c=>(AU a).f A fun a=>(AU b).f A fun b=>aI E.most (fK c a b fun v=>K v S)⟩
 | .alloc t=>match wY P t with
  | some z=>match xP bY z with
   | true=>⟨fun _ _ S K=>dQ z t S K⟩
   | false=>EO
  | none=>EO
 | .box t x=>⟨fun _ A S K=>(AU x).f A fun v=>iG t v S K⟩
 | .build t ps=>match wY P t,P.underlying t with
  | some zero,some (.struct fields)=>match placesOf P fields.toList with
   | some pl=>match xP bY zero,ps.toList.all fun p=>(pl[p.1]?).isSome with
    | true,true=>⟨fun _ A S K=>(Hn (pl[·]?) ps.toList).f A fun l=>cS zero l fun v=>K v S⟩
    | _,_=>EO
   | none=>EO
  | some zero,some (.array _ elem)=>match cM P elem with
   | some size=>match xP bY zero with
    | true=>⟨fun _ A S K=>(Hn (fun i=>some (i*size,size)) ps.toList).f A fun l=>cS zero l fun v=>K v S⟩
    | false=>EO
   | none=>EO
  | _,_=>EO
 | .buildSlice t len ps=>match isSlice P t with
  | some elem=>match cM P elem,wY P elem with
   | some (size+1),some zero=>match Nat.ble (len*(size+1)) 16777216,Nat.beq zero.length (size+1)with
    | true,true=>match xP bY zero with
     | true=>⟨fun _ A S K=>(Hn (fun i=>some (i*(size+1),size+1)) ps.toList).f A fun l=>aS elem len zero l S K⟩
     | false=>EO
    | _,_=>EO
   | _,_=>EO
  | none=>EO
 | .load t a=>match xQ P t,cM P t with
  | some false,_=>⟨fun _ A S K=>(AU a).f A fun a=>aW a S K⟩
  | some true,some (n+1)=>⟨fun _ A S K=>(AU a).f A fun a=>bR (n+1) a S K⟩
  | _,_=>EO
 | .store t a x=>match cM P t with
  | some n=>⟨fun _ A S K=>(AU a).f A fun a=>(AU x).f A fun x=>nI n a x S fun S=>K WM S⟩
  | none=>EO
 | .nilCheck x=>⟨fun _ A S K=>(AU x).f A fun v=>nP P v fun v=>K v S⟩
 | .binOp op t x y _=>match xQ P t with
  | some true=>⟨fun _ A S K=>(AU x).f A fun a=>(AU y).f A fun b=>aPm P op t a b fun v=>K v S⟩
  | _=>⟨fun _ A S K=>(AU x).f A fun a=>(AU y).f A fun b=>aJ P op t a b fun v=>K v S⟩
 | .unOp op _ x=>⟨fun _ A S K=>(AU x).f A fun a=>SP op a fun v=>K v S⟩
 | .convert s d x=>match P.underlying s,P.underlying d with
  | some (.int _),some (.int k)=>⟨fun _ A S K=>(AU x).f A fun a=>LE k a fun v=>K v S⟩
  | _,_=>EO
 | .makeInterface t x=>match aBv P t with
  | true=>⟨fun _ A S K=>(AU x).f A fun v=>K (.iface t v) S⟩
  | false=>EO
 | .makeFunc fn first cap=>match fn with
  | .func f=>⟨fun _ A S K=>(aGn first.toList).f A fun a=>(aGn cap.toList).f A fun b=>K (.func f a b) S⟩
  | .method s=>match first.toList,cap.toList with
   | [x],[]=>⟨fun _ A S K=>(AU x).f A fun v=>K (.KJ s v) S⟩
   | _,_=>EO
  | _=>EO
 | .fieldAddr s x f=>match DF P s f with
  | some fd=>match cM P fd.type with
   | some (_+1)=>⟨fun _ A S K=>(AU x).f A fun x=>aV fd.offset x fun v=>K v S⟩
   | _=>EO
  | none=>EO
 | .field t x f=>match DF P t f with
  | some fd=>match xQ P fd.type,cM P fd.type with
   | some false,_=>⟨fun _ A S K=>(AU x).f A fun x=>aC8 fd.offset x fun v=>K v S⟩
   | some true,some n=>⟨fun _ A S K=>(AU x).f A fun x=>Yj fd.offset n x fun v=>K v S⟩
   | _,_=>EO
  | none=>EO
 | .indexAddr t x ix=>match isSlice P t with
  | some el=>match cM P el with
   | some n=>⟨fun _ A S K=>(AU x).f A fun x=>(AU ix).f A fun ix=>cV n x ix fun v=>K v S⟩
   | none=>EO
  | none=>EO
 | .index t x ix=>match P.underlying t with
  | some .string=>⟨fun _ A S K=>(AU x).f A fun x=>(AU ix).f A fun ix=>aC9 x ix fun v=>K v S⟩
  | _=>EO
 | .slice t x lo hi mx=>match aNB mx hi with
  | true=>aDe P t x lo hi mx
  | false=>EO
 | .makeSlice t l c=>Bl P t l c
 | .makeMap _ none=>⟨fun _ _ S K=>Eo S K⟩
 | .makeMap t (some r)=>match ID P t with
  | some _=>⟨fun _ A S K=>(AU r).f A fun r=>Ep r S K⟩
  | none=>EO
 | .range t x=>match ID P t with
  | some _=>⟨fun _ A S K=>(AU x).f A fun x=>GS x S K⟩
  | none=>EO
 | .next it false=>⟨fun _ A S K=>(AU it).f A fun x=>LN x S K⟩
 | .entry it=>⟨fun _ A S K=>(AU it).f A fun x=>RM x S K⟩
 | .lookup t x ix ok=>Yp P t x ix ok
 | .mapUpdate t m k x=>Yq P t m k x
 | .insert t m k x=>Yq P t m k x
 | .extract t i=>⟨fun _ A S K=>(AU t).f A fun v=>vB i v fun v=>K v S⟩
 | .call c=>aJl P c
 | _=>EO
abbrev KSV:=VA->Hp->Prop
structure StV where
 f:VE->VA->Hp->KSV->Prop
structure ChV where
 f:VE->VA->Hp->Prop->Prop
def aNC (P:Program) (o:Oper):StV:=
 match o.dst with
 | some d=>⟨fun E A S k=>(opV P o).f E A S fun v S=>Po A d v fun A=>k A S⟩
 | none=>⟨fun E A S k=>(opV P o).f E A S fun _ S=>k A S⟩
def doV (P:Program) (ops:Array Oper) (o:Oper):StV:=
 match o.guard with
 | none=>aNC P o
 | some (j,w)=>match ops[j]? with
  | some o'=>match o'.dst with
   | some g=>match o.dst with
    | some d=>⟨fun E A S k=>Sl A.tmps g fun b=>aI E.most (aH w b (fun k=>(opV P o).f E A S k) S fun v S=>Po A d v fun A=>k A S)⟩
    | none=>⟨fun E A S k=>Sl A.tmps g fun b=>aI E.most (aH w b (fun k=>(opV P o).f E A S k) S fun _ S=>k A S)⟩
   | none=>⟨fun _ _ _ _=>False⟩
  | none=>⟨fun _ _ _ _=>False⟩
def opsV (P:Program) (ops:Array Oper) (l:List Oper):StV:=
 NC (β:=StV) ⟨fun _ A S k=>k A S⟩ (fun o _ ih=>⟨fun E A S k=>(doV P ops o).f E A S fun A S=>ih.f E A S k⟩) l
def YI (P:Program) (ops:Array Oper) (l:List Nat):ChV:=
 NC (β:=ChV) ⟨fun _ _ _ k=>k⟩ (fun i _ ih=>match ops[i]? with
  | some o=>match o.dst with
   | some d=>match o.guard with
    | none=>⟨fun E A S k=>Sl A.tmps d fun u=>(opV P o).f E A S fun v _=>aU v u (ih.f E A S k)⟩
    | some (j,w)=>match ops[j]? with
     | some o'=>match o'.dst with
      | some g=>⟨fun E A S k=>Sl A.tmps d fun u=>Sl A.tmps g fun b=>aI E.most (fW w b u (fun k=>(opV P o).f E A S fun v _=>aU v u k) (ih.f E A S k))⟩
      | none=>⟨fun _ _ _ _=>False⟩
     | none=>⟨fun _ _ _ _=>False⟩
   | none=>⟨fun _ _ _ _=>False⟩
  | none=>⟨fun _ _ _ _=>False⟩) l
def aBw (P:Program) (ops:Array Oper) (i:Nat) (o:Oper):OpV:=match fA P ops i with
 | none=>opV P o
 | some _=>EO
def SY (P:Program) (ops:Array Oper) (l:List Nat):StV:=
 NC (β:=StV) ⟨fun _ A S k=>k A S⟩ (fun i _ ih=>match ops[i]? with
  | some o=>match o.dst with
   | some d=>⟨fun E A S k=>(aBw P ops i o).f E A S fun v S=>Po A d v fun A=>ih.f E A S k⟩
   | none=>⟨fun E A S k=>(aBw P ops i o).f E A S fun _ S=>ih.f E A S k⟩
  | none=>⟨fun _ _ _ _=>False⟩) l
abbrev aPo (A:VA) (o:Oper) (k:Prop):Prop:=match o.dst with
 | some d=>aGm A.tmps.t d k
 | none=>False
def Yr (P:Program) (ops:Array Oper) (l:List (Nat×List Nat)):ChV:=
 NC (β:=ChV) ⟨fun _ _ _ k=>k⟩ (fun p _ ih=>match ops[p.1]? with
  | some o=>⟨fun E A S k=>aPo A o (((SY P ops p.2).f E A S fun A S=>(aBw P ops p.1 o).f E A S fun _ _=>True)/\ih.f E A S k)⟩
  | none=>⟨fun _ _ _ _=>False⟩) l
def ND (P:Program) (ops:Array Oper) (l:List zH):StV:=
 NC (β:=StV) ⟨fun _ _ _ _=>False⟩ (fun s _ ih=>match s with
  | .take i=>match ops[i]? with
   | some o=>⟨fun E A S k=>(doV P ops o).f E A S fun A S=>ih.f E A S k⟩
   | none=>⟨fun _ _ _ _=>False⟩
  | .Ts BQ nG D r FQ=>match ops[r]? with
   | some o=>⟨fun E A S k=>(YI P ops BQ).f E A S ((Yr P ops nG).f E A S ((SY P ops D).f E A S fun A S=>(doV P ops o).f E A S fun A S=>(YI P ops FQ).f E A S (ih.f E A S k)))⟩
   | none=>⟨fun _ _ _ _=>False⟩
  | .fin BQ nG D=>⟨fun E A S k=>(YI P ops BQ).f E A S ((Yr P ops nG).f E A S ((SY P ops D).f E A S k))⟩) l
abbrev aBx (ops:Array Oper) (l:List Nat) (A:VA) (k:VA->Prop):Prop:=
 NC (β:=VA->Prop) k (fun i _ ih A=>match ops[i]? with
  | some o=>match o.dst with
   | some d=>match A with | ⟨⟨t,n⟩,g⟩=>aJk t d fun t=>ih ⟨⟨t,n⟩,g⟩
   | none=>False
  | none=>False) l A
def LP (P:Program) (ops:Array Oper) (l:List zH):StV:=
 NC (β:=StV) ⟨fun _ A S k=>k A S⟩ (fun s _ ih=>match s with
  | .take i=>match ops[i]? with
   | some o=>⟨fun E A S k=>(doV P ops o).f E A S fun A S=>ih.f E A S k⟩
   | none=>⟨fun _ _ _ _=>False⟩
  | .Ts BQ nG D r FQ=>match ops[r]? with
   | some o=>⟨fun E A S k=>(YI P ops BQ).f E A S ((Yr P ops nG).f E A S ((SY P ops D).f E A S fun A S=>(doV P ops o).f E A S fun A S=>(YI P ops FQ).f E A S (ih.f E A S k)))⟩
   | none=>⟨fun _ _ _ _=>False⟩
  | .fin _ _ _=>⟨fun _ _ _ _=>False⟩) l
def aEV (w:Bool) (v:V) (k:Prop):Prop:=match v with
 | .bool b=>match w,b with | true,true=>k | false,false=>k | _,_=>False
 | _=>False
def aDf (P:Program) (p:VT):Array Oper->StV:=
 VT.rec (motive:=fun _=>Array Oper->StV) (fun l ops=>ND P ops l) (fun l g t b _ ih ops=>⟨fun E A S k=>(LP P ops l).f E A S fun A S=>Sl A.tmps t fun v=>aEV b v ((ih (eZ ops g b)).f E A S k)⟩) p
def aMc (P:Program) (ops:Array Oper) (draw:Bool):StV:=
 match draw with
 | true=>match De P ops with
  | some l=>match OR l with
   | []=>ND P ops l
   | ls=>⟨fun E A S k=>aBx ops ls A fun A=>(ND P ops l).f E A S k⟩
  | none=>match KM ops with
   | true=>match Dg P (ops.size+1) ops ⟨List.replicate ops.size false⟩ []with
    | some p=>⟨fun E A S k=>aBx ops (Wx p) A fun A=>(aDf P p ops).f E A S k⟩
    | none=>⟨fun _ _ _ _=>False⟩
   | false=>⟨fun _ _ _ _=>False⟩
 | false=>opsV P ops ops.toList
abbrev CV:=zG->VA->Hp->Prop
structure CdV where
 f:VE->VA->Hp->CV->Prop
abbrev PK (l:List Nat) (A:VA) (k:List V->Prop):Prop:=
 NC (β:=(List V->Prop)->Prop) (fun k=>k []) (fun i _ ih k=>Sl A.tmps i fun v=>ih fun vs=>k (v::vs)) l k
abbrev RN (l:List Nat) (vs:List V) (nt g:Nat) (k:VA->Prop):Prop:=
 NC (β:=List V->Yo->Prop) (fun _ T=>k ⟨T,g⟩) (fun i _ ih vs T=>match vs with | v::vs=>ZM v T i fun T=>ih vs T | []=>False) l vs ⟨.leaf,nt⟩
abbrev LpV:=VE->List V->Nat->Hp->(zG->List V->Nat->Hp->Prop)->Prop
section
variable (P:Program) (tb:sN) (r:Option Nat)
abbrev Ys (a:Code) (ih:List V->Nat->Hp->Prop) (K:zG->List V->Nat->Hp->Prop):CV:=fun e A S=>match e with
 | .normal=>PK (zW tb a) A fun vs=>ih vs A.tmps.n S
 | e=>PK (Do tb a e) A fun vs=>K e vs A.tmps.n S
def XQ (a:Code) (body:CdV) (E:VE) (K:zG->List V->Nat->Hp->Prop):Nat->List V->Nat->Hp->Prop:=
 aEU (β:=List V->Nat->Hp->Prop) (fun _ _ _=>False) (fun _ ih vs n S=>cR S fun S=>RN (zW tb a) vs n P.globals.size fun A=>body.f E A S (Ys tb a ih K))
def aJm (a:Code) (body:CdV):LpV:=fun E vs n S K=>XQ P tb a body E K E.most vs n S
abbrev aGo (a:Code) (K:CV):zG->List V->Nat->Hp->Prop:=fun e vs n S=>RN (Do tb a e) vs n P.globals.size fun A=>K e A S
def aRE (a:Code) (lp:LpV):CdV:=⟨fun E A S K=>PK (zW tb a) A fun vs=>lp E vs A.tmps.n S (aGo P tb a K)⟩
def aJn (l:List Nat) (b:CdV) (E:VE) (K:CV) (vs:List V) (n:Nat) (S:Hp):Prop:=LO E.most False fun _=>cR S fun S=>RN l vs n P.globals.size fun A=>b.f E A S K
abbrev aEW (j:Option (List Nat)) (b:CdV) (E:VE) (K:CV):CV:=fun e A S=>match e with
 | .normal=>match j with
  | none=>b.f E A S K
  | some l=>PK l A fun vs=>aJn P l b E K vs A.tmps.n S
 | e=>K e A S
abbrev aDg (id:Nat) (K:CV):CV:=fun e A S=>match e with
 | .exit i=>ZL i id (K .normal A S) (K (.exit i) A S)
 | e=>K e A S
def Yt (a:Code):List Nat:=match rP a with | some i=>(tb.loop (1000000+i)).1 | none=>[]
def rOk (r:Option Nat) (S:Hp) (p:Prop):Prop:=match r with | none=>p | some l=>RF l S p
def Yu (f:Operand) (ps:Array Tmp) (as bo:Code):CdV:=⟨fun E A S K=>(AU f).f A fun f=>PK (Yt tb bo) A fun vs=>rOk r S (OC E f (Yt tb bo) vs A.tmps.n ps.toList as bo S fun pe S=>SX pe (K .normal A S) (K .ret A S) fun id=>K (.exit id) A S)⟩
def sQ (lp:Code->LpV):Code->CdV
 | .skip=>⟨fun _ A S K=>K .normal A S⟩
 | .region _ ops draw=>⟨fun E A S K=>(aMc P ops draw).f E A S fun A S=>K .normal A S⟩
 | .seq a b=>⟨fun E A S K=>(sQ lp a).f E A S (aEW P (II tb b) (sQ lp b) E K)⟩
 | .cond c a b=>⟨fun E A S K=>(AU c).f A fun v=>iR v ((sQ lp a).f E A S K) ((sQ lp b).f E A S K)⟩
 | .block id a=>⟨fun E A S K=>(sQ lp a).f E A S (aDg id K)⟩
 | .loop a=>aRE P tb a (lp a)
 | .scope a=>sQ lp a
 | .rangeFunc f ps as bo=>Yu tb r f ps as bo
 | .exit id=>⟨fun _ A S K=>K (.exit id) A S⟩
 | .label _=>⟨fun _ A S K=>K .normal A S⟩
 | .ret=>⟨fun _ A S K=>K .ret A S⟩
 | _=>⟨fun _ _ _ _=>False⟩
def YH:Nat->Code->LpV
 | 0=>fun _ _ _ _ _ _=>False
 | n+1=>fun a=>aJm P tb a (sQ P tb r (YH n) a)
end
section
variable (P:Program) (tb:FuncId->sN)
abbrev LQ (rs:List ResultVar) (A:VA) (S:Hp) (k:List V->Prop):Prop:=
 NC (β:=(List V->Prop)->Prop) (fun k=>k []) (fun x _ ih k=>match x with
  | .tmp t=>Sl A.tmps t fun v=>ih fun vs=>k (v::vs)
  | .cell a t=>match xQ P t,cM P t with
   | some false,_=>Sl A.tmps a fun a=>aW a S fun v _=>ih fun vs=>k (v::vs)
   | some true,some (n+1)=>Sl A.tmps a fun a=>bR (n+1) a S fun v _=>ih fun vs=>k (v::vs)
   | _,_=>False) rs k
abbrev aJo (fn:Func) (K:KV):CV:=fun e A S=>match e with
 | .exit _=>False
 | _=>LQ P fn.results.toList A S fun vs=>match vs with | [v]=>bF v S K | vs=>bF (.tuple vs) S K
def jX (f:FuncId) (E:VE) (args:List V) (S:Hp) (K:KV):Prop:=
 match P.funcs[f]? with
 | some fn=>match fn.body with
  | some c=>aRB fn.ntmps args fun ts=>(sQ P (tb f) none (YH P (tb f) none EU) c).f E ⟨ts,P.globals.size⟩ S (aJo P fn K)
  | none=>False
 | none=>False
abbrev aRF (l:Nat) (K:KV):CV:=fun e _ S=>match e with
 | .normal=>IX l .ready none true S K
 | .ret=>IX l .done (some .ret) false S K
 | .exit id=>IX l .done (some (.exit id)) false S K
abbrev aPp (n l:Nat) (bo:Code) (E:VE) (K:KV):CV:=fun e A S=>match e with
 | .normal=>ZK l S fun S=>(sQ P (tb (Gz n bo)) (some l) (YH P (tb (Gz n bo)) (some l) EU) bo).f E A S (aRF l K)
 | _=>False
abbrev aJp (ps:List Tmp) (args:List V) (T:Yo) (k:Yo->Prop):Prop:=
 NC (β:=List V->Yo->Prop) (fun as T=>match as with | []=>k T | _=>False) (fun p _ ih as T=>match as with | a::as=>ZM a T p fun T=>ih as T | []=>False) ps args T
def WP (E:VE) (n:Nat) (ps:List Tmp) (as bo:Code) (l:Nat) (vs args:List V) (S:Hp) (K:KV):Prop:=
 RN (YY tb n bo) vs n P.globals.size fun A=>aJp ps args A.tmps fun T=>(sQ P (tb (Gz n bo)) (some l) (YH P (tb (Gz n bo)) (some l) EU) as).f E ⟨T,P.globals.size⟩ S (aPp P tb n l bo E K)
def Bk (E:VE) (l:Nat) (args:List V) (S:Hp) (K:KV):Prop:=match S l with
 | some (.loop ls vs n ps as bo _ _)=>ls=YY tb n bo/\WP P tb E n ps as bo l vs args S K
 | _=>False
abbrev OvV:=FuncId->Option (List V->Hp->KV->Prop)
def Yn (ov:OvV) (most:Nat) (n:Nat):VE:=
 aEU (β:=VE) ⟨fun _ _ _ _=>False,fun _ _ _ _=>False,most⟩ (fun _ E=>⟨fun f args S K=>match ov f with | some g=>g args S K | none=>jX P tb f E args S K,fun l args S K=>Bk P tb E l args S K,most⟩) n
variable (Tb:sN) (r:Option Nat) (E:VE)
def tL:List Dir->Nat->Code->List Nat->CV->(Nat->Code->CV->Prop)->Prop
 | [],D,c,_,K,k=>k D c K
 | .l::p,D,.seq a b,ms,K,k=>tL p D a ms (aEW P (II Tb b) (sQ P Tb r (YH P Tb r D) b) E K) k
 | .r::p,D,.seq _ b,ms,K,k=>tL p D b ms K k
 | .l::p,D,.cond _ a _,ms,K,k=>tL p D a ms K k
 | .r::p,D,.cond _ _ b,ms,K,k=>tL p D b ms K k
 | .d::p,D,.block id a,ms,K,k=>tL p D a ms (aDg id K) k
 | .d::p,D,.scope a,ms,K,k=>tL p D a ms K k
 | .d::p,D+1,.loop a,m::ms,K,k=>tL p D a ms (Ys Tb a (XQ P Tb a (sQ P Tb r (YH P Tb r D) a) E (aGo P Tb a K) m) (aGo P Tb a K)) k
 | _,_,_,_,_,_=>False
def Uq (f:FuncId) (E:VE) (p:List Dir) (ms:List Nat) (vs:List V) (S:Hp) (K:KV):Prop:=
 match P.funcs[f]? with
 | some fn=>match fn.body with
  | some c=>tL P (tb f) none E p EU c ms (aJo P fn K) fun D c K=>match II (tb f) c with
   | some l=>aJn P l (sQ P (tb f) none (YH P (tb f) none D) c) E K vs fn.ntmps S
   | none=>False
  | none=>False
 | none=>False
def Ur (f:FuncId) (E:VE) (p:List Dir) (ms:List Nat) (vs:List V) (S:Hp) (K:KV):Prop:=
 match P.funcs[f]? with
 | some fn=>match fn.body with
  | some c=>tL P (tb f) none E p EU c ms (aJo P fn K) fun D c K=>match II (tb f) c with
   | some l=>cR S fun S=>RN l vs fn.ntmps P.globals.size fun A=>(sQ P (tb f) none (YH P (tb f) none D) c).f E A S K
   | none=>False
  | none=>False
 | none=>False
def dW (f:FuncId) (E:VE) (p:List Dir) (m:Nat) (ms:List Nat) (vs:List V) (S:Hp) (K:KV):Prop:=
 match P.funcs[f]? with
 | some fn=>match fn.body with
  | some c=>tL P (tb f) none E p EU c ms (aJo P fn K) fun D c K=>match D,c with
   | D+1,.loop a=>XQ P (tb f) a (sQ P (tb f) none (YH P (tb f) none D) a) E (aGo P (tb f) a K) m vs fn.ntmps S
   | _,_=>False
  | none=>False
 | none=>False
def RO:List Dir->Code->Code
 | [],c=>c
 | .l::p,.seq a _=>RO p a
 | .r::p,.seq _ b=>RO p b
 | .l::p,.cond _ a _=>RO p a
 | .r::p,.cond _ _ b=>RO p b
 | .d::p,.block _ a=>RO p a
 | .d::p,.scope a=>RO p a
 | .d::p,.loop a=>RO p a
 | .d::p,.rangeFunc _ _ _ b=>RO p b
 | _,c=>c
def aPq (f:FuncId) (p:List Dir):Code:=match P.funcs[f]? with
 | some fn=>match fn.body with
  | some c=>RO p c
  | none=> .skip
 | none=> .skip
def DY (f:FuncId) (p:List Dir):List Tmp:=match aPq P f p with | .rangeFunc _ ps _ _=>ps.toList | _=>[]
def DZ (f:FuncId) (p:List Dir):Code:=match aPq P f p with | .rangeFunc _ _ as _=>as | _=> .skip
def yU (f:FuncId) (p:List Dir):Code:=match aPq P f p with | .rangeFunc _ _ _ bo=>bo | _=> .skip
end
structure EP (B:Nat->Prop) (S S':St) (B':Nat->Prop):Prop where
 n:S.n<=S'.n
 same:∀i,i<S.n->¬B i->S'.obj i=S.obj i
 sub:∀i,B' i->B i\/S.n<=i
theorem EP.trans{B B1 B2:Nat->Prop}{S S1 S2:St} (h:EP B S S1 B1) (k:EP B1 S1 S2 B2):EP B S S2 B2:=by
 refine⟨zR h.n k.n,fun i hi hb=>?_,fun i hi=>?_⟩
 ·rw [k.same i (CZ hi h.n) (fun By=>?_),h.same i hi hb]
  rcases h.sub i By with h1 | h1
  ·exact hb h1
  ·omega
 ·rcases k.sub i hi with h1 | h1
  ·exact h.sub i h1
  ·exact .inr (zR h.n h1)
theorem EP.refl (B:Nat->Prop) (S:St):EP B S S B:=⟨bQ _,fun _ _ _=>rfl,fun _ h=> .inl h⟩
inductive It where
 | num
 | kind
 | int
 | is
 | text
 | Gt
 | list (its:List It)
def wIt:It->Nat
 | .num | .int=>8
 | .kind | .is=>1
 | .text=>16
 | .Gt | .list _=>24
def aCx (l:List It):Nat:=(l.map wIt).foldr (· + ·) 0
inductive D where
 | n (z:Int)
 | b (v:Bool)
 | s (l:List UInt8)
 | l (es:List (List D))
def Wr (c:CK):Prop:=c= .rs\/c= .exact\/∃l,c= .grown l
inductive Rd (S:St) (C:Nat->Prop):It->Value->D->Prop where
 | num {z:Nat} (h:z<18446744073709551616):Rd S C .num (.int .u64 (.ofNat z)) (.n z)
 | kind {z:Nat} (h:z<256):Rd S C .kind (.int .u8 (.ofNat z)) (.n z)
 | int {z:Int} (h1: -9223372036854775808<=z) (h2:z<9223372036854775808):Rd S C .int (.int .i64 z) (.n z)
 | is {v:Bool}:Rd S C .is (.bool v) (.b v)
 | text {l:List UInt8} (h:l.length<=140737488355328):Rd S C .text (.string ⟨⟨l⟩⟩) (.s l)
 | Gt {v:Value} {es:List (List D)} (h:Rd S C (.list [.num]) v (.l es)):Rd S C .Gt v (.l es)
 | empty {its:List It}:Rd S C (.list its) (.slice none 0 0) (.l [])
 | Wu {its:List It} {b o s:Nat}:Rd S C (.list its) (.slice (some ⟨b,o,some (s+2)⟩) 0 0) (.l [])
 | row {its:List It} {b o n c:Nat} {sp:Option Nat} {vs:List Value} {e:TypeId} {ck:CK} {es:List (List D)} (BA:Re sp=true) (hb:b<S.n) (hC:¬C b) (ho:S.obj b=some (.cells vs e ck)) (hw:Wr ck)
  (hn:es.length=n) (hl:o+n*its.length<=vs.length) (hd:∀ds∈es,ds.length=its.length) (hN:n<=140737488355328/\n*aCx its<=140737488355328) (hnc:n<=c)
  (hr:∀(k:Nat) (ds:List D) (j:Nat) (it:It) (v:Value) (d:D),es[k]? =some ds->its[j]? =some it->vs[o+k*its.length+j]? =some v->ds[j]? =some d->Rd S C it v d):Rd S C (.list its) (.slice (some ⟨b,o,sp⟩) n c) (.l es)
theorem Rd.fr{S S':St}{C C':Nat->Prop} (f:EP C S S' C'){it:It}{v:Value}{d:D} (h:Rd S C it v d):Rd S' C' it v d:=by
 induction h with
 | num h=>exact .num h
 | kind h=>exact .kind h
 | int h1 h2=>exact .int h1 h2
 | is=>exact .is
 | text h=>exact .text h
 | Gt _ ih=>exact .Gt ih
 | empty=>exact .empty
 | Wu=>exact .Wu
 | row BA hb hC ho hw hn hl hd hN hnc _ ih=>
  refine .row BA (CZ hb f.n) (fun h=>?_) (by rw [f.same _ hb hC];exact ho) hw hn hl hd hN hnc ih;rcases f.sub _ h with h | h
  ·exact hC h
  ·omega
theorem Rd.aAV{S:St}{C:Nat->Prop}{v:Value}{d:D} (h:Rd S C .kind v d):∃z:Nat,v= .int .u8 (.ofNat z)/\d= .n z/\z<256:=by
 cases h with | kind h=>exact⟨_,rfl,rfl,h⟩
theorem Rd.Wv{S:St}{C:Nat->Prop}{v:Value}{d:D} (h:Rd S C .int v d):∃z:Int,v= .int .i64 z/\d= .n z/\ -9223372036854775808<=z/\z<9223372036854775808:=by
 cases h with | int h1 h2=>exact⟨_,rfl,rfl,h1,h2⟩
structure QZ (S S':St):Prop where
 n:S.n<=S'.n
 same:∀i,i<S.n->S'.obj i=S.obj i
theorem QZ.fr{S S':St} (h:QZ S S') (B:Nat->Prop):EP B S S' B:=⟨h.n,fun i hi _=>h.same i hi,fun _ hi=> .inl hi⟩
theorem QZ.refl (S:St):QZ S S:=⟨bQ _,fun _ _=>rfl⟩
structure RdA (S:St) (C:Nat->Prop) (its:List It) (cs:List Value) (ds:List D):Prop where
 len:cs.length=its.length
 Wt:ds.length=its.length
 rd:∀(j:Nat) (it:It) (v:Value) (d:D),its[j]? =some it->cs[j]? =some v->ds[j]? =some d->Rd S C it v d
theorem RdA.fr{S S':St}{C C':Nat->Prop}{its:List It}{cs:List Value}{ds:List D} (h:RdA S C its cs ds) (f:EP C S S' C'):RdA S' C' its cs ds:=⟨h.len,h.Wt,fun j it v d a b c=>(h.rd j it v d a b c).fr f⟩
theorem QZ.trans{a b c:St} (h:QZ a b) (k:QZ b c):QZ a c:=⟨zR h.n k.n,fun i hi=>by rw [k.same i (CZ hi h.n),h.same i hi]⟩
theorem QZ.new (S:St) (o:jB):QZ S (S.new o):=⟨QF _,fun _i hi=>iB (Nat.ne_of_lt hi)⟩
structure Cx where
 Z:Nat->Option Nat
 G:Nat->Nat->Option Value
 Yz:Nat->Option Value
 n0:Nat
structure Cx.le0 (c d:Cx):Prop where
 Z:∀i b,c.Z i=some b->d.Z i=some b
 G:∀i n v,c.G i n=some v->d.G i n=some v
 Yz:∀k v,c.Yz k=some v->d.Yz k=some v
structure Cx.le (c d:Cx):Prop where
 Z:∀i b,c.Z i=some b->d.Z i=some b
 G:∀i n v,c.G i n=some v->d.G i n=some v
 Yz:∀k v,c.Yz k=some v->d.Yz k=some v
 n0:d.n0=c.n0
theorem Cx.le.refl (c:Cx):c.le c:=⟨fun _ _ h=>h,fun _ _ _ h=>h,fun _ _ h=>h,rfl⟩
theorem Cx.le.trans{a b c:Cx} (h:a.le b) (k:b.le c):a.le c:=⟨fun i b e=>k.Z i b (h.Z i b e),fun i n v e=>k.G i n v (h.G i n v e),fun i v e=>k.Yz i v (h.Yz i v e),k.n0.trans h.n0⟩
theorem Cx.le.to0{a b:Cx} (h:a.le b):a.le0 b:=⟨h.Z,h.G,h.Yz⟩
structure Fc (C:Nat->Prop) (S S':St) (C':Nat->Prop):Prop where
 n:S.n<=S'.n
 same:∀b,b<S.n->¬C b->∀vs e ck,S.obj b=some (.cells vs e ck)->S'.obj b=some (.cells vs e ck)
 sub:∀b,C' b->C b\/S.n<=b
theorem Fc.of{C C':Nat->Prop}{S S':St} (f:EP C S S' C'):Fc C S S' C':=⟨f.n,fun b h1 h2 _ _ _ e=>by rw [f.same b h1 h2];exact e,f.sub⟩
inductive YJ (S:St) (C:Nat->Prop):Dt->Value->Prop
 | int {k:IntKind} {z:Int}:YJ S C (.int k z) (.int k z)
 | bool {b:Bool}:YJ S C (.bool b) (.bool b)
 | str {l:List UInt8}:YJ S C (.str l) (.string ⟨⟨l⟩⟩)
 | nil:YJ S C (.list [] 0) (.slice none 0 0)
 | emp {b o s:Nat}:YJ S C (.list [] 0) (.slice (some ⟨b,o,some (s+2)⟩) 0 0)
 | row {b o n c:Nat} {sp:Option Nat} {vs:List Value} {e:TypeId} {ck:CK} {cs:List Dt} (BA:Re sp=true) (hb:b<S.n) (hC:¬C b) (ho:S.obj b=some (.cells vs e ck)) (hl:o+cs.length<=vs.length) (hn:n<=c)
  (hr:∀(j:Nat) (d:Dt) (v:Value),cs[j]? =some d->vs[o+j]? =some v->YJ S C d v):YJ S C (.list cs n) (.slice (some ⟨b,o,sp⟩) n c)
inductive RP (c:Cx) (S:St) (C:Nat->Prop):Tag->Value->Prop
 | root {k:Nat} {w:Value} (h:c.Yz k=some w):RP c S C (.root k) w
 | sub {O:Tag} {b o n cc k:Nat} {sp:Option Nat} {vs:List Value} {e:TypeId} {ck:CK} {w:Value} (h:RP c S C O (.slice (some ⟨b,o,sp⟩) n cc)) (hb:b<S.n) (hC:¬C b) (ho:S.obj b=some (.cells vs e ck)) (hv:vs[o+k]? =some w):RP c S C (.sub O k) w
 | cut {O:Tag} {b o n cc d k q:Nat} {sp:Option Nat} (h:RP c S C O (.slice (some ⟨b,o,sp⟩) n cc)):RP c S C (.cut O d k q) (.slice (some ⟨b,o+d,none⟩) k q)
inductive fN (c:Cx) (S:St) (C:Nat->Prop):V->Value->Prop
 | int {k:IntKind} {z:Int}:fN c S C (.int k z) (.int k z)
 | bool {b:Bool}:fN c S C (.bool b) (.bool b)
 | str {l:List UInt8}:fN c S C (.str l) (.string ⟨⟨l⟩⟩)
 | list {O:Tag} {cs:List Dt} {n:Nat} {w:Value} (ht:RP c S C O w) (hd:YJ S C (.list cs n) w):fN c S C (.list O cs n) w
 | uB {O:Tag} {cs:List Dt} {b o n cc k:Nat} {sp:Option Nat} (ht:RP c S C O (.slice (some ⟨b,o,sp⟩) n cc)) (hd:YJ S C (.list cs n) (.slice (some ⟨b,o,sp⟩) n cc)):fN c S C (.uB O cs k) (.pointer (some ⟨b,o+k,none⟩))
 | nil:fN c S C .nil (.slice none 0 0)
 | acc {i n:Nat} {w:Value} (h:c.G i n=some w):fN c S C (.acc i n) w
 | HW {i n o k cc b:Nat} (h:c.G i n=some (.slice (some ⟨b,0,some 0⟩) n n)):fN c S C (.HW i n o k cc) (.slice (some ⟨b,o,some 0⟩) k cc)
 | aJq {i n b:Nat} (h:c.G i n=some (.slice (some ⟨b,0,some 0⟩) n n)):fN c S C (.emp i n) (.slice (some ⟨b,0,some 1⟩) 0 0)
 | wL {i n o b:Nat} (h:c.G i n=some (.slice (some ⟨b,0,some 0⟩) n n)):fN c S C (.wL i n o) (.pointer (some ⟨b,o,none⟩))
 | own {i o n m b:Nat} (h:c.Z i=some b):fN c S C (.own i o n m) (.slice (some ⟨b,o,none⟩) n m)
 | ptr {i o b:Nat} (h:c.Z i=some b):fN c S C (.ptr i o) (.pointer (some ⟨b,o,none⟩))
 | Ka:fN c S C .Ka (.pointer none)
 | Sj:fN c S C .Sj .nilIface
 | yZ {i b:Nat} (h:c.Z i=some b):fN c S C (.yZ i) (.map (some b))
 | Pg:fN c S C .Pg (.map none)
 | Hh:fN c S C .Hh .nilFunc
 | yield {l b:Nat} (h:c.Z l=some b):fN c S C (.yield l) (.func (.yield b) ⟨[]⟩ ⟨[]⟩)
 | func {f:FuncId} {a d:List V} {a' d':List Value} (la:a.length=a'.length) (ld:d.length=d'.length) (ha:∀(k:Nat) (v:V) (w:Value),a[k]? =some v->a'[k]? =some w->fN c S C v w) (hd:∀(k:Nat) (v:V) (w:Value),d[k]? =some v->d'[k]? =some w->fN c S C v w):fN c S C (.func f a d) (.func (.func f) ⟨a'⟩ ⟨d'⟩)
 | KJ {s:String} {v:V} {w:Value} (h:fN c S C v w):fN c S C (.KJ s v) (.func (.method s) ⟨[w]⟩ ⟨[]⟩)
 | iface {t:TypeId} {v:V} {w:Value} (h:fN c S C v w):fN c S C (.iface t v) (.iface t w)
 | agg {a:List V} {a':List Value} (la:a.length=a'.length) (ha:∀(k:Nat) (v:V) (w:Value),a[k]? =some v->a'[k]? =some w->fN c S C v w):fN c S C (.agg a) (.agg ⟨a'⟩)
 | tuple {a:List V} {a':List Value} (la:a.length=a'.length) (ha:∀(k:Nat) (v:V) (w:Value),a[k]? =some v->a'[k]? =some w->fN c S C v w):fN c S C (.tuple a) (.tuple ⟨a'⟩)
structure lT (c:Cx) (S:St) (C:Nat->Prop) (a:List V) (a':List Value):Prop where
 len:a.length=a'.length
 rd:∀(k:Nat) (v:V) (w:Value),a[k]? =some v->a'[k]? =some w->fN c S C v w
section
variable{S S':St}{C C':Nat->Prop}{c d:Cx}
theorem YJ.tO (f:Fc C S S' C'){x:Dt}{v:Value} (h:YJ S C x v):YJ S' C' x v:=by
 induction h with
 | int=>exact .int
 | bool=>exact .bool
 | str=>exact .str
 | nil=>exact .nil
 | emp=>exact .emp
 | row BA hb hC ho hl hn _ ih=>
  refine .row BA (CZ hb f.n) (fun h=>?_) (f.same _ hb hC _ _ _ ho) hl hn ih;rcases f.sub _ h with h | h
  ·exact hC h
  ·omega
theorem RP.tO (l:c.le0 d) (f:Fc C S S' C'){O:Tag}{v:Value} (h:RP c S C O v):RP d S' C' O v:=by
 induction h with
 | root h=>exact .root (l.Yz _ _ h)
 | cut _ ih=>exact .cut ih
 | sub _ hb hC ho hv ih=>
  refine .sub ih (CZ hb f.n) (fun h=>?_) (f.same _ hb hC _ _ _ ho) hv;rcases f.sub _ h with h | h
  ·exact hC h
  ·omega
theorem fN.tO (l:c.le0 d) (f:Fc C S S' C'){x:V}{v:Value} (h:fN c S C x v):fN d S' C' x v:=by
 induction h with
 | int=>exact .int
 | bool=>exact .bool
 | str=>exact .str
 | list ht hd=>exact .list (ht.tO l f) (hd.tO f)
 | uB ht hd=>exact .uB (ht.tO l f) (hd.tO f)
 | nil=>exact .nil
 | acc h=>exact .acc (l.G _ _ _ h)
 | wL h=>exact .wL (l.G _ _ _ h)
 | HW h=>exact .HW (l.G _ _ _ h)
 | aJq h=>exact .aJq (l.G _ _ _ h)
 | own h=>exact .own (l.Z _ _ h)
 | ptr h=>exact .ptr (l.Z _ _ h)
 | Ka=>exact .Ka
 | Sj=>exact .Sj
 | yZ h=>exact .yZ (l.Z _ _ h)
 | Pg=>exact .Pg
 | Hh=>exact .Hh
 | yield h=>exact .yield (l.Z _ _ h)
 | func la ld _ _ i1 i2=>exact .func la ld i1 i2
 | KJ _ ih=>exact .KJ ih
 | iface _ ih=>exact .iface ih
 | agg la _ ih=>exact .agg la ih
 | tuple la _ ih=>exact .tuple la ih
theorem YJ.mono (f:EP C S S' C'){x:Dt}{v:Value} (h:YJ S C x v):YJ S' C' x v:=h.tO (.of f)
theorem fN.mono (l:c.le d) (f:EP C S S' C'){x:V}{v:Value} (h:fN c S C x v):fN d S' C' x v:=h.tO l.to0 (.of f)
theorem lT.tO (l:c.le0 d) (f:Fc C S S' C'){x:List V}{v:List Value} (h:lT c S C x v):lT d S' C' x v:=⟨h.len,fun k a b p q=>(h.rd k a b p q).tO l f⟩
theorem lT.mono (l:c.le d) (f:EP C S S' C'){x:List V}{v:List Value} (h:lT c S C x v):lT d S' C' x v:=⟨h.len,fun k a b p q=>(h.rd k a b p q).mono l f⟩
theorem RP.fn{O:Tag}{v:Value} (h:RP c S C O v):∀{w:Value},RP c S C O w->v=w:=by
 induction h with
 | root h=>
  intro w k;cases k with | root k=>rw [h]at k;injection k
 | cut _ ih=>
  intro w k;cases k with
  | cut h2=>
   have:=ih h2;injection this with e1 e2 e3;injection e1 with e1;injection e1 with e4 e5 e6;subst e4 e5;rfl
 | sub _ hb hC ho hv ih=>
  intro w k;cases k with
  | sub h2 MP hC2 BN hv2=>
   have:=ih h2;injection this with e1 e2 e3;injection e1 with e1;injection e1 with e4 e5 e6;subst e4 e5;rw [ho]at BN;injection BN with BN;injection BN with BN;subst BN;rw [hv]at hv2;injection hv2
theorem XR{a:List V}{x y:List Value} (hx:a.length=x.length) (hy:a.length=y.length) (h:∀(k:Nat) (v:V) (w:Value),a[k]? =some v->x[k]? =some w->∀{u:Value},fN c S C v u->w=u) (k:∀(k:Nat) (v:V) (w:Value),a[k]? =some v->y[k]? =some w->fN c S C v w):x=y:=by
 refine List.ext_getElem (by omega) fun i a1 a2=>?_;exact h i _ _ (aT (by omega)) (aT a1) (k i _ _ (aT (by omega)) (aT a2))
theorem fN.fn{x:V}{v:Value} (h:fN c S C x v):∀{w:Value},fN c S C x w->v=w:=by
 induction h with
 | int=>intro w k;cases k;rfl
 | bool=>intro w k;cases k;rfl
 | str=>intro w k;cases k;rfl
 | list ht _=>intro w k;cases k with | list ht2 _=>exact ht.fn ht2
 | uB ht _=>
  intro w k;cases k with
  | uB ht2 _=>
   have:=ht.fn ht2;injection this with e1 e2 e3;injection e1 with e1;injection e1 with e4 e5 e6;subst e4 e5;rfl
 | nil=>intro w k;cases k;rfl
 | acc h=>intro w k;cases k with | acc k=>rw [h]at k;injection k
 | HW h=>
  intro w k;cases k with
  | HW k=>
   rw [h]at k;injection k with k;injection k with e1 e2 e3;injection e1 with e1;injection e1 with e4 e5 e6;subst e4;rfl
 | aJq h=>
  intro w k;cases k with
  | aJq k=>
   rw [h]at k;injection k with k;injection k with e1 e2 e3;injection e1 with e1;injection e1 with e4 e5 e6;subst e4;rfl
 | wL h=>
  intro w k;cases k with
  | wL k=>
   rw [h]at k;injection k with k;injection k with e1 e2 e3;injection e1 with e1;injection e1 with e4 e5 e6;subst e4;rfl
 | own h=>intro w k;cases k with | own k=>rw [h]at k;injection k with k;subst k;rfl
 | ptr h=>intro w k;cases k with | ptr k=>rw [h]at k;injection k with k;subst k;rfl
 | Ka=>intro w k;cases k;rfl
 | Sj=>intro w k;cases k;rfl
 | Pg=>intro w k;cases k;rfl
 | yZ h=>intro w k;cases k with | yZ k=>rw [h]at k;injection k with k;subst k;rfl
 | Hh=>intro w k;cases k;rfl
 | yield h=>intro w k;cases k with | yield k=>rw [h]at k;injection k with k;subst k;rfl
 | func la ld _ _ i1 i2=>
  intro w k;cases k with
  | func la2 ld2 k1 k2=>rw [XR la la2 (fun k v w p q u=>i1 k v w p q) k1,XR ld ld2 (fun k v w p q u=>i2 k v w p q) k2]
 | KJ _ ih=>intro w k;cases k with | KJ k=>rw [ih k]
 | iface _ ih=>intro w k;cases k with | iface k=>rw [ih k]
 | agg la _ ih=>intro w k;cases k with | agg la2 k=>rw [XR la la2 (fun k v w p q u=>ih k v w p q) k]
 | tuple la _ ih=>intro w k;cases k with | tuple la2 k=>rw [XR la la2 (fun k v w p q u=>ih k v w p q) k]
theorem lT.nil:lT c S C [] []:=⟨rfl,fun k v w a=>by simp at a⟩
theorem lT.cons{v:V}{w:Value}{l:List V}{m:List Value} (h:fN c S C v w) (k:lT c S C l m):lT c S C (v::l) (w::m):=by
 refine⟨by simp [k.len],fun j x y a b=>?_⟩;cases j with
 | zero=>simp at a b;subst a b;exact h
 | succ j=>simp at a b;exact k.rd j x y a b
theorem lT.rQ{m:List Value} (h:lT c S C [] m):m=[]:=sB (by simpa using h.len.symm)
theorem lT.cons_inv{v:V}{l:List V}{m:List Value} (h:lT c S C (v::l) m):∃w m',m=w::m'/\fN c S C v w/\lT c S C l m':=by
 cases m with
 | nil=>have:=h.len;simp at this
 | cons w m=>exact⟨w,m,rfl,h.rd 0 v w rfl rfl,by simpa using h.len,fun k x y a b=>h.rd (k+1) x y (by simpa using a) (by simpa using b)⟩
theorem lT.app{l l2:List V}{m m2:List Value} (h:lT c S C l m) (k:lT c S C l2 m2):lT c S C (l++l2) (m++m2):=by
 refine⟨by simp [h.len,k.len],fun j x y a b=>?_⟩;have hl:=h.len;by_cases hj:j<l.length
 ·rw [gO hj]at a
  rw [gO (by omega)]at b;exact h.rd j x y a b
 ·rw [kH (by omega)]at a b
  exact k.rd _ x y a (by rw [hl];exact b)
theorem lT.take{l:List V}{m:List Value} (h:lT c S C l m) (n:Nat):lT c S C (l.take n) (m.take n):=by
 refine⟨by simp [h.len],fun j x y a b=>?_⟩;rw [sC]at a b;split at a
 ·rename_i hj;rw [aO hj]at b;exact h.rd j x y a b
 ·cases a
theorem lT.drop{l:List V}{m:List Value} (h:lT c S C l m) (n:Nat):lT c S C (l.drop n) (m.drop n):=by
 refine⟨by simp [h.len],fun j x y a b=>?_⟩;rw [qY]at a b;exact h.rd _ x y a b
theorem lT.bA{l n:List V}{m n':List Value} (h:lT c S C l m) (k:lT c S C n n') (o:Nat):lT c S C (Am.bA o n l) (Am.bA o n' m):=by
 unfold Am.bA;rw [<-k.len];exact((h.take o).app k).app (h.drop _)
theorem lT.get{l:List V}{m:List Value} (h:lT c S C l m){k:Nat}{v:V} (hv:l[k]? =some v):∃w,m[k]? =some w/\fN c S C v w:=by
 have hk:k<m.length:=by rw [<-h.len];exact(List.getElem?_eq_some_iff.1 hv).1
 exact⟨m[k],aT hk,h.rd k v _ hv (aT hk)⟩
theorem lT.flatten{l:List V}{m:List Value} (h:lT c S C l m) (n:Nat):lT c S C (List.replicate n l).flatten (List.replicate n m).flatten:=by
 induction n with
 | zero=>exact .nil
 | succ n ih=>simp only [HY,NQ];exact h.app ih
theorem aBy{v:Value}{x:V} (h:ofV v=some x):bY v=true:=by
 unfold ofV at h;split at h<;>first | rfl | cases h
theorem aJr{v:Value}{x:V} (h:ofV v=some x):fN c S C x v:=by
 unfold ofV at h;split at h<;>first | (injection h with h;subst h;first | exact .int | exact .bool | exact .str | exact .Ka | exact .nil | exact .Sj | exact .Hh | exact .Pg) | cases h
theorem XS:∀{z:List Value} {l:List V},LB z=some l->lT c S C l z:=by
 intro z;induction z with
 | nil=>intro l h;simp [LB]at h;subst h;exact .nil
 | cons v z ih=>
  intro l h;unfold LB at h;split at h
  ·rename_i x hx
   split at h
   ·rename_i xs hxs
    injection h with h;subst h;exact .cons (aJr hx) (ih hxs)
   ·cases h
  ·cases h
end
theorem aPr{c:Cx}{S:St}{C:Nat->Prop}{O:Tag}{d:Dt}{w:Value} (h:YJ S C d w) (ht:RP c S C O w):fN c S C (T O d) w:=by
 cases h with
 | int=>exact .int
 | bool=>exact .bool
 | str=>exact .str
 | nil=>exact .list ht .nil
 | emp=>exact .list ht .emp
 | row a b e f g i j=>exact .list ht (.row a b e f g i j)
def LR (es:List MapEntry) (ck:Nat):Prop:=(es.map (·.born)).Pairwise (· < ·)/\∀e∈es,e.born<ck
theorem LR.app{es:List MapEntry}{ck:Nat} (b:LR es ck){e:MapEntry} (he:e.born=ck):LR (es++[e]) (ck+1):=by
 refine⟨?_,fun x hx=>?_⟩
 ·rw [QE,List.pairwise_append]
  refine⟨b.1,by simp,fun x hx y hy=>?_⟩;obtain⟨z,hz,rfl⟩:=List.mem_map.1 hx;simp at hy;subst hy;rw [he];exact b.2 z hz
 ·rcases List.mem_append.1 hx with hx | hx
  ·have:=b.2 x hx;omega
  ·simp at hx;subst hx;omega
theorem LR.set{es:List MapEntry}{ck:Nat} (b:LR es ck){j:Nat}{e e2:MapEntry} (hj:es[j]? =some e) (he:e2.born=e.born):LR (es.set j e2) ck:=by
 have hm:(es.set j e2).map (·.born)=es.map (·.born):=by
  apply xM;intro k;rw [eH,eH,Lw];split
  ·rename_i h;subst h
   have hlt:=(List.getElem?_eq_some_iff.1 hj).1;rw [aO hlt,hj];simp [he]
  ·rfl
 refine⟨by rw [hm];exact b.1,fun x hx=>?_⟩;obtain⟨k,hk⟩:=ZW hx;have h1:((es.set j e2).map (·.born))[k]? =some x.born:=by rw [eH,hk];rfl
 rw [hm,eH]at h1;cases hq:es[k]? with
 | none=>rw [hq]at h1;cases h1
 | some y=>
  rw [hq]at h1;simp at h1;rw [<-h1];exact b.2 y (CY hq)
def ObR (c:Cx) (S:St) (C:Nat->Prop) (o:Ob) (a:jB):Prop:=match o with
 | .row vs t=>∃ws,a= .cells ws t .exact/\lT c S C vs ws
 | .gD _ _ _=>False
 | .map es=>∃jQ clock,a= .map jQ clock/\LR jQ clock/\es.length=jQ.length/\∀(k:Nat) (x:V×V) (y:MapEntry),es[k]? =some x->jQ[k]? =some y->fN c S C x.1 y.key/\fN c S C x.2 y.val
 | .wP es bs ck=>∃jQ,a= .map jQ ck/\jQ.map (·.born)=bs/\LR jQ ck/\es.length=jQ.length/\∀(k:Nat) (x:V×V) (y:MapEntry),es[k]? =some x->jQ[k]? =some y->fN c S C x.1 y.key/\fN c S C x.2 y.val
 | .iter m since seen last=>∃r,a= .iter (some r) since seen last/\c.Z m=some r
 | .loop ls vs n ps as bo st pe=>∃T,a= .loop T ps as bo st pe/\n=T.n/\vs.length=ls.length/\∀(j i:Nat) (v:V),ls[j]? =some i->vs[j]? =some v->∃w,T.t.get i=some w/\fN c S C v w
theorem ObR.tO{c d:Cx}{S S':St}{C C':Nat->Prop} (l:c.le0 d) (f:Fc C S S' C'){o:Ob}{a:jB} (h:ObR c S C o a):ObR d S' C' o a:=by
 cases o with
 | row vs t=>obtain⟨ws,e,r⟩:=h;exact⟨ws,e,r.tO l f⟩
 | gD=>exact h
 | map es=>
  obtain⟨jQ,k,e,hb,hl,r⟩:=h;exact⟨jQ,k,e,hb,hl,fun i x y p q=>⟨(r i x y p q).1.tO l f,(r i x y p q).2.tO l f⟩⟩
 | wP es bs ck=>
  obtain⟨jQ,e,hbs,hb,hl,r⟩:=h;exact⟨jQ,e,hbs,hb,hl,fun i x y p q=>⟨(r i x y p q).1.tO l f,(r i x y p q).2.tO l f⟩⟩
 | iter m since seen last=>
  obtain⟨r,e,q⟩:=h;exact⟨r,e,l.Z _ _ q⟩
 | loop ls vs n ps as bo st pe=>
  obtain⟨T,e,hn,q,r⟩:=h;exact⟨T,e,hn,q,fun j i v p p2=>let⟨w,a,b⟩:=r j i v p p2;⟨w,a,b.tO l f⟩⟩
theorem ObR.mono{c d:Cx}{S S':St}{C C':Nat->Prop} (l:c.le d) (f:EP C S S' C'){o:Ob}{a:jB} (h:ObR c S C o a):ObR d S' C' o a:=h.tO l.to0 (.of f)
def tP (c:Cx) (h:Hp) (i b:Nat):Prop:=(∃o,h i=some o/\Ph o=false/\c.Z i=some b)\/∃vs t n m,h i=some (.gD vs t n)/\c.G i m=some (.slice (some ⟨b,0,some 0⟩) m m)
section
variable (P:Program) (B:Nat->Prop) (Sb:St)
def dO (c:Cx) (h:Hp):Nat->Prop:=fun b=>B b\/∃i,tP c h i b
structure VS (c:Cx) (h:Hp) (S:St):Prop where
 base:QZ Sb S
 bB:∀b,B b->b<Sb.n
 ob:∀i o,h i=some o->Ph o=false->∃b a,c.Z i=some b/\Sb.n<=b/\b<S.n/\S.obj b=some a/\ObR c S (dO B c h) o a
 gD:∀i vs t n,h i=some (.gD vs t n)->∃b ws olds sz,c.G i n=some (.slice (some ⟨b,0,some 0⟩) n n)/\Sb.n<=b/\b<S.n/\S.obj b=some (.cells ws t (.grown olds))/\lT c S (dO B c h) vs ws/\cM P t=some sz/\vs.length=n*sz/\∀m,n<m->c.G i m=none
 inj:∀i j b,tP c h i b->tP c h j b->i=j
 Gs:∀i n w,c.G i n=some w->∃b,w= .slice (some ⟨b,0,some 0⟩) n n
 room:∃N,∀i,N<=i->h i=none/\c.Z i=none/\∀n,c.G i n=none
 WQ:∃M,∀k,M<=k->c.Yz k=none
 Gb:∀i vs t n m b,h i=some (.gD vs t n)->c.G i m=some (.slice (some ⟨b,0,some 0⟩) m m)->Sb.n<=b/\b<S.n
 old:∀i vs t n b ws e olds,h i=some (.gD vs t n)->c.G i n=some (.slice (some ⟨b,0,some 0⟩) n n)->S.obj b=some (.cells ws e (.grown olds))->∀x∈olds,∃m,c.G i m=some (.slice (some ⟨x,0,some 0⟩) m m)
end
section
variable{P:Program}{B:Nat->Prop}{Sb:St}{c d:Cx}{h h':Hp}{S S':St}
theorem VS.row (s:VS P B Sb c h S) (i:Nat) (vs:List V) (t:TypeId) (e:h i=some (.row vs t)):∃b ws,c.Z i=some b/\Sb.n<=b/\b<S.n/\S.obj b=some (.cells ws t .exact)/\lT c S (dO B c h) vs ws:=by
 obtain⟨b,a,a1,a2,a3,a4,ws,rfl,a5⟩:=s.ob i _ e rfl;exact⟨b,ws,a1,a2,a3,a4,a5⟩
theorem VS.bd (s:VS P B Sb c h S){i b:Nat} (l:tP c h i b):Sb.n<=b/\b<S.n:=by
 rcases l with ⟨o,e1,eg,e2⟩ | ⟨vs,t,n,m,e1,e2⟩
 ·obtain⟨b',ws,a1,a2,a3,_⟩:=s.ob i o e1 eg
  rw [e2]at a1;injection a1 with a1;subst a1;exact⟨a2,a3⟩
 ·exact s.Gb i vs t n m b e1 e2
theorem VS.fresh (s:VS P B Sb c h S):∃i,h i=none/\c.Z i=none/\∀n,c.G i n=none:=by
 obtain⟨N,hN⟩:=s.room;exact⟨N,hN N (bQ _)⟩
theorem VS.aGp (s:VS P B Sb c h S){b:Nat} (l:dO B c h b):b<S.n:=by
 rcases l with l | ⟨i,l⟩
 ·exact CZ (s.bB b l) s.base.n
 ·exact(s.bd l).2
def Cx.putZ (c:Cx) (i b:Nat):Cx:=⟨fun j=>if j=i then some b else c.Z j,c.G,c.Yz,c.n0⟩
def Cx.putG (c:Cx) (i n:Nat) (w:Value):Cx:=⟨c.Z,fun j m=>if j=i/\m=n then some w else c.G j m,c.Yz,c.n0⟩
theorem Cx.putZ_le{i b:Nat} (hi:c.Z i=none):c.le (c.putZ i b):=by
 refine⟨fun j x e=>?_,fun _ _ _ e=>e,fun _ _ e=>e,rfl⟩;show(if j=i then some b else c.Z j)=some x;rw [aG (fun e2=>by subst e2;rw [hi]at e;cases e)];exact e
theorem Cx.putG_le{i n:Nat}{w:Value} (hi:c.G i n=none):c.le (c.putG i n w):=by
 refine⟨fun _ _ e=>e,fun j m x e=>?_,fun _ _ e=>e,rfl⟩;show(if j=i/\m=n then some w else c.G j m)=some x;rw [aG (fun e2=>by obtain⟨rfl,rfl⟩:=e2;rw [hi]at e;cases e)];exact e
theorem aB{i:Nat}{o:Ob}:aL h i o i=some o:=aO rfl
theorem aC{i j:Nat}{o:Ob} (e:j≠i):aL h i o j=h j:=aG e
theorem VS.aEX (s:VS P B Sb c h S){i:Nat} (_h0:h i=none) (h1:c.Z i=none) (_h2:∀n,c.G i n=none){o:Ob}{ao:jB} (hg:Ph o=false) (ho:∀d S' C',c.le d->EP (dO B c h) S S' C'->ObR d S' C' o ao):
 VS P B Sb (c.putZ i S.n) (aL h i o) (S.new ao)/\c.le (c.putZ i S.n)/\EP (dO B c h) S (S.new ao) (dO B (c.putZ i S.n) (aL h i o))/\(c.putZ i S.n).Z i=some S.n:=by
 have le:=Cx.putZ_le (c:=c) (i:=i) (b:=S.n) h1
 have YK:∀j b,tP (c.putZ i S.n) (aL h i o) j b->(j=i/\b=S.n)\/(j≠i/\tP c h j b):=by
  intro j b l;by_cases e:j=i
  ·subst e
   rcases l with ⟨o',_,_,e2⟩ | ⟨vs',t',n,m,e1,e2⟩
   ·have:(if j=j then some S.n else c.Z j)=some b:=e2
    rw [aO rfl]at this;injection this with this;exact .inl ⟨rfl,this.symm⟩
   ·rw [aB]at e1;injection e1 with e1;subst e1;cases hg
  ·refine .inr ⟨e,?_⟩
   rcases l with ⟨o',e1,eg,e2⟩ | ⟨vs',t',n,m,e1,e2⟩
   ·rw [aC e]at e1
    have e2:(if j=i then some S.n else c.Z j)=some b:=e2;rw [aG e]at e2;exact .inl ⟨o',e1,eg,e2⟩
   ·rw [aC e]at e1
    exact .inr ⟨vs',t',n,m,e1,e2⟩
 have fr:EP (dO B c h) S (S.new ao) (dO B (c.putZ i S.n) (aL h i o)):=by
  refine⟨QF _,fun j hj _=>iB (Nat.ne_of_lt hj),fun b l=>?_⟩;rcases l with l | ⟨j,l⟩
  ·exact .inl (.inl l)
  ·rcases YK j b l with ⟨_,e⟩ | ⟨_,l⟩
   ·exact .inr (Ak e.symm)
   ·exact .inl (.inr ⟨j,l⟩)
 refine⟨⟨s.base.trans (.new S _),s.bB,?_,?_,?_,s.Gs,?_,s.WQ,?_,?_⟩,le,fr,aO rfl⟩
 ·intro j o' e eg
  by_cases e2:j=i
  ·subst e2
   rw [aB]at e;injection e with e;subst e;exact⟨S.n,ao,aO rfl,s.base.n,xN _,uV,ho _ _ _ le fr⟩
  ·rw [aC e2]at e
   obtain⟨b,a',a1,a2,a3,a4,a5⟩:=s.ob j o' e eg;exact⟨b,a',le.Z _ _ a1,a2,sD a3,by rw [iB (by omega)];exact a4,a5.mono le fr⟩
 ·intro j vs' t' n e
  have e2:j≠i:=fun e2=>by subst e2;rw [aB]at e;injection e with e;subst e;cases hg
  rw [aC e2]at e;obtain⟨b,ws',olds,sz,a1,a2,a3,a4,a5,a6⟩:=s.gD j vs' t' n e;exact⟨b,ws',olds,sz,a1,a2,sD a3,by rw [iB (by omega)];exact a4,a5.mono le fr,a6⟩
 ·intro j k b l1 l2
  rcases YK j b l1 with ⟨e1,e2⟩ | ⟨e1,l1⟩
  ·rcases YK k b l2 with ⟨e3,e4⟩ | ⟨e3,l2⟩
   ·rw [e1,e3]
   ·have:=(s.bd l2).2;omega
  ·rcases YK k b l2 with ⟨e3,e4⟩ | ⟨e3,l2⟩
   ·have:=(s.bd l1).2;omega
   ·exact s.inj j k b l1 l2
 ·obtain⟨N,hN⟩:=s.room
  refine⟨max N (i+1),fun j hj=>?_⟩;obtain⟨a1,a2,a3⟩:=hN j (by omega);exact⟨by rw [aC (by omega)];exact a1,by show(if j=i then _ else c.Z j)=none;rw [aG (by omega)];exact a2,a3⟩
 ·intro j vs' t' n m b e e3
  have e2:j≠i:=fun e2=>by subst e2;rw [aB]at e;injection e with e;subst e;cases hg
  rw [aC e2]at e;obtain⟨q1,q2⟩:=s.Gb j vs' t' n m b e e3;exact⟨q1,sD q2⟩
 ·intro j vs' t' n b ws' e' olds e e3 e4
  have e2:j≠i:=fun e2=>by subst e2;rw [aB]at e;injection e with e;subst e;cases hg
  rw [aC e2]at e;rw [iB (by have:=(s.Gb j vs' t' n n b e e3).2;omega)]at e4;exact s.old j vs' t' n b ws' e' olds e e3 e4
theorem VS.newRow (s:VS P B Sb c h S){i:Nat} (h0:h i=none) (h1:c.Z i=none) (h2:∀n,c.G i n=none){vs:List V}{ws:List Value} (t:TypeId) (hv:lT c S (dO B c h) vs ws):
 VS P B Sb (c.putZ i S.n) (aL h i (.row vs t)) (S.new (.cells ws t .exact))/\c.le (c.putZ i S.n)/\EP (dO B c h) S (S.new (.cells ws t .exact)) (dO B (c.putZ i S.n) (aL h i (.row vs t)))/\(c.putZ i S.n).Z i=some S.n:=
 s.aEX h0 h1 h2 (o:= .row vs t) rfl fun _ _ _ l f=>⟨ws,rfl,hv.mono l f⟩
theorem VS.Uu (s:VS P B Sb c h S){i b:Nat}{o0 o:Ob} (h0:h i=some o0) (g0:Ph o0=false) (h1:c.Z i=some b){ao:jB} (hg:Ph o=false) (ho:∀S' C',EP (dO B c h) S S' C'->ObR c S' C' o ao):
 VS P B Sb c (aL h i o) (S.set b ao)/\EP (dO B c h) S (S.set b ao) (dO B c (aL h i o)):=by
 have hb:tP c h i b:= .inl ⟨o0,h0,g0,h1⟩;obtain⟨g1,g2⟩:=s.bd hb
 have YK:∀j x,tP c (aL h i o) j x->tP c h j x:=by
  intro j x l;by_cases e:j=i
  ·subst e
   rcases l with ⟨o',e1,eg,e2⟩ | ⟨vs2,t2,n,m,e1,e2⟩
   ·exact .inl ⟨o0,h0,g0,e2⟩
   ·rw [aB]at e1;injection e1 with e1;subst e1;cases hg
  ·rcases l with ⟨o',e1,eg,e2⟩ | ⟨vs2,t2,n,m,e1,e2⟩
   ·rw [aC e]at e1;exact .inl ⟨o',e1,eg,e2⟩
   ·rw [aC e]at e1;exact .inr ⟨vs2,t2,n,m,e1,e2⟩
 have fr:EP (dO B c h) S (S.set b ao) (dO B c (aL h i o)):=by
  refine⟨bQ _,fun j _ hc=>lE fun e=>hc (.inr ⟨i,e▸hb⟩),fun x l=>?_⟩;rcases l with l | ⟨j,l⟩
  ·exact .inl (.inl l)
  ·exact .inl (.inr ⟨j,YK j x l⟩)
 refine⟨⟨⟨s.base.n,fun j hj=>?_⟩,s.bB,?_,?_,fun j k x l1 l2=>s.inj j k x (YK j x l1) (YK k x l2),s.Gs,?_,s.WQ,?_,?_⟩,fr⟩
 ·rw [lE (by omega)];exact s.base.same j hj
 ·intro j o' e eg
  by_cases e2:j=i
  ·subst e2
   rw [aB]at e;injection e with e;subst e;exact⟨b,ao,h1,g1,g2,Xh,ho _ _ fr⟩
  ·rw [aC e2]at e
   obtain⟨x,a',a1,a2,a3,a4,a5⟩:=s.ob j o' e eg;have:x≠b:=fun e3=>e2 (s.inj j i b (.inl ⟨o',e,eg,e3▸a1⟩) hb);exact⟨x,a',a1,a2,a3,by rw [lE this];exact a4,a5.mono (.refl c) fr⟩
 ·intro j vs2 t2 n e
  have e2:j≠i:=fun e2=>by subst e2;rw [aB]at e;injection e with e;subst e;cases hg
  rw [aC e2]at e;obtain⟨x,ws2,olds,sz,a1,a2,a3,a4,a5,a6⟩:=s.gD j vs2 t2 n e;have:x≠b:=fun e3=>e2 (s.inj j i b (.inr ⟨vs2,t2,n,n,e,e3▸a1⟩) hb);exact⟨x,ws2,olds,sz,a1,a2,a3,by rw [lE this];exact a4,a5.mono (.refl c) fr,a6⟩
 ·obtain⟨N,hN⟩:=s.room
  refine⟨N,fun j hj=>?_⟩;obtain⟨a1,a2,a3⟩:=hN j hj;have:j≠i:=fun e=>by subst e;rw [h0]at a1;cases a1
  exact⟨by rw [aC this];exact a1,a2,a3⟩
 ·intro j vs2 t2 n m x e e3
  have e2:j≠i:=fun e2=>by subst e2;rw [aB]at e;injection e with e;subst e;cases hg
  rw [aC e2]at e;exact s.Gb j vs2 t2 n m x e e3
 ·intro j vs2 t2 n x ws' e' olds e e3 e4
  have e2:j≠i:=fun e2=>by subst e2;rw [aB]at e;injection e with e;subst e;cases hg
  rw [aC e2]at e;have:x≠b:=fun e5=>e2 (s.inj j i b (.inr ⟨vs2,t2,n,n,e,e5▸e3⟩) hb);rw [lE this]at e4;exact s.old j vs2 t2 n x ws' e' olds e e3 e4
theorem VS.aRG (s:VS P B Sb c h S){i b:Nat}{o0 o:Ob} (h0:h i=some o0) (g0:Ph o0=false) (h1:c.Z i=some b) (hg:Ph o=false) (ho:∀a C',S.obj b=some a->ObR c S C' o0 a->ObR c S C' o a):
 VS P B Sb c (aL h i o) S/\dO B c (aL h i o)=dO B c h:=by
 have YK:∀j x,tP c (aL h i o) j x↔tP c h j x:=by
  intro j x;by_cases e:j=i
  ·subst e
   constructor
   ·intro l
    rcases l with ⟨o',e1,eg,e2⟩ | ⟨vs2,t2,n,m,e1,e2⟩
    ·exact .inl ⟨o0,h0,g0,e2⟩
    ·rw [aB]at e1;injection e1 with e1;subst e1;cases hg
   ·intro l
    rcases l with ⟨o',e1,eg,e2⟩ | ⟨vs2,t2,n,m,e1,e2⟩
    ·exact .inl ⟨o,aB,hg,e2⟩
    ·rw [h0]at e1;injection e1 with e1;subst e1;cases g0
  ·constructor
   ·intro l
    rcases l with ⟨o',e1,eg,e2⟩ | ⟨vs2,t2,n,m,e1,e2⟩
    ·rw [aC e]at e1;exact .inl ⟨o',e1,eg,e2⟩
    ·rw [aC e]at e1;exact .inr ⟨vs2,t2,n,m,e1,e2⟩
   ·intro l
    rcases l with ⟨o',e1,eg,e2⟩ | ⟨vs2,t2,n,m,e1,e2⟩
    ·exact .inl ⟨o',by rw [aC e];exact e1,eg,e2⟩
    ·exact .inr ⟨vs2,t2,n,m,by rw [aC e];exact e1,e2⟩
 have hL:dO B c (aL h i o)=dO B c h:=by
  funext x
  apply propext;constructor
  ·rintro(l | ⟨j,l⟩)
   ·exact .inl l
   ·exact .inr ⟨j,(YK j x).1 l⟩
  ·rintro(l | ⟨j,l⟩)
   ·exact .inl l
   ·exact .inr ⟨j,(YK j x).2 l⟩
 refine⟨⟨s.base,s.bB,?_,?_,fun j k x l1 l2=>s.inj j k x ((YK j x).1 l1) ((YK k x).1 l2),s.Gs,?_,s.WQ,?_,?_⟩,hL⟩
 ·intro j o' e eg
  rw [hL];by_cases e2:j=i
  ·subst e2
   rw [aB]at e;injection e with e;subst e;obtain⟨b',a,a1,a2,a3,a4,a5⟩:=s.ob j o0 h0 g0;rw [h1]at a1;injection a1 with a1;subst a1;exact⟨b,a,h1,a2,a3,a4,ho _ _ a4 a5⟩
  ·rw [aC e2]at e
   exact s.ob j o' e eg
 ·intro j vs2 t2 n e
  have e2:j≠i:=fun e2=>by subst e2;rw [aB]at e;injection e with e;subst e;cases hg
  rw [aC e2]at e;rw [hL];exact s.gD j vs2 t2 n e
 ·obtain⟨N,hN⟩:=s.room
  refine⟨N,fun j hj=>?_⟩;obtain⟨a1,a2,a3⟩:=hN j hj;have:j≠i:=fun e=>by subst e;rw [h0]at a1;cases a1
  exact⟨by rw [aC this];exact a1,a2,a3⟩
 ·intro j vs2 t2 n m x e e3
  have e2:j≠i:=fun e2=>by subst e2;rw [aB]at e;injection e with e;subst e;cases hg
  rw [aC e2]at e;exact s.Gb j vs2 t2 n m x e e3
 ·intro j vs2 t2 n x ws' e' olds e e3 e4
  have e2:j≠i:=fun e2=>by subst e2;rw [aB]at e;injection e with e;subst e;cases hg
  rw [aC e2]at e;exact s.old j vs2 t2 n x ws' e' olds e e3 e4
theorem VS.setRow (s:VS P B Sb c h S){i b:Nat}{vs vs':List V}{t:TypeId} (h0:h i=some (.row vs t)) (h1:c.Z i=some b){ws':List Value} (hv:lT c S (dO B c h) vs' ws'):
 VS P B Sb c (aL h i (.row vs' t)) (S.set b (.cells ws' t .exact))/\EP (dO B c h) S (S.set b (.cells ws' t .exact)) (dO B c (aL h i (.row vs' t))):=
 s.Uu h0 rfl h1 (o:= .row vs' t) rfl fun _ _ f=>⟨ws',rfl,hv.mono (.refl c) f⟩
theorem VS.drop (s:VS P B Sb c h S) (l:bU h' h):VS P B Sb c h' S/\EP (dO B c h) S S (dO B c h'):=by
 have YK:∀j x,tP c h' j x->tP c h j x:=by
  intro j x k;rcases k with ⟨o,e1,eg,e2⟩ | ⟨vs2,t2,n,m,e1,e2⟩
  ·exact .inl ⟨o,l _ _ e1,eg,e2⟩
  ·exact .inr ⟨vs2,t2,n,m,l _ _ e1,e2⟩
 have fr:EP (dO B c h) S S (dO B c h'):=by
  refine⟨bQ _,fun _ _ _=>rfl,fun x k=>?_⟩;rcases k with k | ⟨j,k⟩
  ·exact .inl (.inl k)
  ·exact .inl (.inr ⟨j,YK j x k⟩)
 refine⟨⟨s.base,s.bB,fun i o e eg=>?_,fun i vs t n e=>?_,fun j k x l1 l2=>s.inj j k x (YK j x l1) (YK k x l2),s.Gs,?_,s.WQ,fun i vs t n m b e e3=>s.Gb i vs t n m b (l _ _ e) e3,fun i vs t n b ws e' olds e e3 e4=>s.old i vs t n b ws e' olds (l _ _ e) e3 e4⟩,fr⟩
 ·obtain⟨b,ws,a1,a2,a3,a4,a5⟩:=s.ob i o (l _ _ e) eg
  exact⟨b,ws,a1,a2,a3,a4,a5.mono (.refl c) fr⟩
 ·obtain⟨b,ws,olds,sz,a1,a2,a3,a4,a5,a6⟩:=s.gD i vs t n (l _ _ e)
  exact⟨b,ws,olds,sz,a1,a2,a3,a4,a5.mono (.refl c) fr,a6⟩
 ·obtain⟨N,hN⟩:=s.room
  refine⟨N,fun j hj=>?_⟩;obtain⟨a1,a2,a3⟩:=hN j hj;refine⟨?_,a2,a3⟩;cases e:h' j with
  | none=>rfl
  | some o=>rw [l _ _ e]at a1;cases a1
theorem VS.Bd (s:VS P B Sb c h S) (l:bU h' h){v:V}{x:Dt} (k:Du h' h v x):∀{w:Value},fN c S (dO B c h) v w->YJ S (dO B c h') x w:=by
 have fr:=(s.drop l).2
 have dead:∀{i b:Nat},tP c h i b->h' i=none->¬dO B c h' b:=by
  intro i b l1 hn l2;rcases l2 with l2 | ⟨j,l2⟩
  ·have:=s.bB b l2;have:=(s.bd l1).1;omega
  ·have l3:tP c h j b:=by
    rcases l2 with ⟨o,e1,eg,e2⟩ | ⟨vs2,t2,n,m,e1,e2⟩
    ·exact .inl ⟨o,l _ _ e1,eg,e2⟩
    ·exact .inr ⟨vs2,t2,n,m,l _ _ e1,e2⟩
   have e:=s.inj i j b l1 l3;subst e;rcases l2 with ⟨o,e1,eg,e2⟩ | ⟨vs2,t2,n,m,e1,e2⟩<;>(rw [hn]at e1;cases e1)
 induction k with
 | int=>intro w q;cases q;exact .int
 | bool=>intro w q;cases q;exact .bool
 | str=>intro w q;cases q;exact .str
 | list=>intro w q;cases q with | list ht hd=>exact hd.mono fr
 | nil=>intro w q;cases q;exact .nil
 | @acc i n vs t cs e hn hl hr ih=>
  intro w q;cases q with
  | acc q=>
   obtain⟨b,ws,olds,sz,a1,a2,a3,a4,a5,a6⟩:=s.gD i vs t n e;rw [a1]at q;injection q with q;subst q;refine .row rfl a3 (dead (.inr ⟨vs,t,n,n,e,a1⟩) hn) a4 (by have:=a5.len;omega) (bQ _) fun j x v b1 b2=>?_;rw [eJ]at b2;have hj:j<vs.length:=by have:=(List.getElem?_eq_some_iff.1 b1).1;omega
   exact ih j vs[j] x (aT hj) b1 (a5.rd j _ v (aT hj) b2)
 | @HW i n o k cc vs t cs e hn hc hl hr ih=>
  intro w q;cases q with
  | HW q=>
   obtain⟨b,ws,olds,sz,a1,a2,a3,a4,a5,a6⟩:=s.gD i vs t n e;rw [a1]at q;injection q with q;injection q with q;injection q with q;injection q with q;subst q;refine .row rfl a3 (dead (.inr ⟨vs,t,n,n,e,a1⟩) hn) a4 (by have:=a5.len;omega) hc fun j x v b1 b2=>?_;have hj:o+j<vs.length:=by have:=(List.getElem?_eq_some_iff.1 b1).1;omega
   exact ih j vs[o+j] x (aT hj) b1 (a5.rd (o+j) _ v (aT hj) b2)
 | @own i o n cc vs t cs e hn hc hl hr ih=>
  intro w q;cases q with
  | own q=>
   obtain⟨b,ws,a1,a2,a3,a4,a5⟩:=s.row i vs t e;rw [a1]at q;injection q with q;subst q;refine .row rfl a3 (dead (.inl ⟨_,e,rfl,a1⟩) hn) a4 (by have:=a5.len;omega) hc fun j x v b1 b2=>?_;have hj:o+j<vs.length:=by have:=(List.getElem?_eq_some_iff.1 b1).1;omega
   exact ih j vs[o+j] x (aT hj) b1 (a5.rd (o+j) _ v (aT hj) b2)
theorem VS.names (s:VS P B Sb c h S) (ws:List Value):∃(d:Cx) (O:Nat->Tag),c.le d/\VS P B Sb d h S/\dO B d h=dO B c h/\∀(k:Nat) (w:Value),ws[k]? =some w->RP d S (dO B d h) (O k) w:=by
 obtain⟨M,hM⟩:=s.WQ
 let d:Cx:=⟨c.Z,c.G,fun k=>if k<M then c.Yz k else ws[k-M]?,c.n0⟩
 have le:c.le d:=by
  refine⟨fun _ _ e=>e,fun _ _ _ e=>e,fun k v e=>?_,rfl⟩;show(if k<M then c.Yz k else ws[k-M]?)=some v;by_cases hk:k<M
  ·rw [aO hk];exact e
  ·rw [hM k (by omega)]at e;cases e
 have fr:EP (dO B c h) S S (dO B d h):=⟨bQ _,fun _ _ _=>rfl,fun _ k=> .inl k⟩;refine⟨d,fun k=> .root (M+k),le,⟨s.base,s.bB,fun i o e eg=>?_,fun i vs t n e=>?_,s.inj,s.Gs,s.room,⟨M+ws.length,fun k hk=>?_⟩,s.Gb,s.old⟩,rfl,fun k w e=> .root ?_⟩
 ·obtain⟨b,ws,a1,a2,a3,a4,a5⟩:=s.ob i o e eg
  exact⟨b,ws,a1,a2,a3,a4,a5.mono le fr⟩
 ·obtain⟨b,ws,olds,sz,a1,a2,a3,a4,a5,a6⟩:=s.gD i vs t n e
  exact⟨b,ws,olds,sz,a1,a2,a3,a4,a5.mono le fr,a6⟩
 ·show(if k<M then c.Yz k else ws[k-M]?)=none
  rw [aG (by omega),FC (by omega)]
 ·show(if M+k<M then c.Yz (M+k)else ws[M+k-M]?)=some w
  rw [aG (by omega),Nat.add_sub_cancel_left];exact e
theorem VS.aJs (s:VS P B Sb c h S){i:Nat} (h0:h i=none) (h1:c.Z i=none) (h2:∀n,c.G i n=none){vs:List V}{ws:List Value}{t:TypeId}{sz n:Nat} (hs:cM P t=some sz) (hn:vs.length=n*sz) (hv:lT c S (dO B c h) vs ws):
 let w:Value:= .slice (some ⟨S.n,0,some 0⟩) n n
 VS P B Sb (c.putG i n w) (aL h i (.gD vs t n)) (S.new (.cells ws t (.grown [])))/\c.le (c.putG i n w)/\EP (dO B c h) S (S.new (.cells ws t (.grown []))) (dO B (c.putG i n w) (aL h i (.gD vs t n)))/\(c.putG i n w).G i n=some w:=by
 intro w;have le:=Cx.putG_le (c:=c) (i:=i) (n:=n) (w:=w) (h2 n)
 have YK:∀j b,tP (c.putG i n w) (aL h i (.gD vs t n)) j b->(j=i/\b=S.n)\/(j≠i/\tP c h j b):=by
  intro j b l;by_cases e:j=i
  ·subst e
   rcases l with ⟨o',e1,eg,e2⟩ | ⟨vs',t',n',m,e1,e2⟩
   ·rw [aB]at e1;injection e1 with e1;subst e1;cases eg
   ·have e2:(if j=j/\m=n then some w else c.G j m)=_:=e2
    by_cases hm:m=n
    ·rw [aO ⟨rfl,hm⟩]at e2
     injection e2 with e2;injection e2 with e2;injection e2 with e2;injection e2 with e2;exact .inl ⟨rfl,e2.symm⟩
    ·rw [aG (fun x=>hm x.2),h2]at e2;cases e2
  ·refine .inr ⟨e,?_⟩
   rcases l with ⟨o',e1,eg,e2⟩ | ⟨vs',t',n',m,e1,e2⟩
   ·rw [aC e]at e1
    exact .inl ⟨o',e1,eg,e2⟩
   ·rw [aC e]at e1
    have e2:(if j=i/\m=n then some w else c.G j m)=_:=e2;rw [aG (fun x=>e x.1)]at e2;exact .inr ⟨vs',t',n',m,e1,e2⟩
 have fr:EP (dO B c h) S (S.new (.cells ws t (.grown []))) (dO B (c.putG i n w) (aL h i (.gD vs t n))):=by
  refine⟨QF _,fun j hj _=>iB (Nat.ne_of_lt hj),fun b l=>?_⟩;rcases l with l | ⟨j,l⟩
  ·exact .inl (.inl l)
  ·rcases YK j b l with ⟨_,e⟩ | ⟨_,l⟩
   ·exact .inr (Ak e.symm)
   ·exact .inl (.inr ⟨j,l⟩)
 refine⟨⟨s.base.trans (.new S _),s.bB,?_,?_,?_,?_,?_,s.WQ,?_,?_⟩,le,fr,aO ⟨rfl,rfl⟩⟩
 ·intro j o' e eg
  have e2:j≠i:=fun e2=>by subst e2;rw [aB]at e;injection e with e;subst e;cases eg
  rw [aC e2]at e;obtain⟨b,ws',a1,a2,a3,a4,a5⟩:=s.ob j o' e eg;exact⟨b,ws',a1,a2,sD a3,by rw [iB (by omega)];exact a4,a5.mono le fr⟩
 ·intro j vs' t' m e
  by_cases e2:j=i
  ·subst e2
   rw [aB]at e;injection e with e;injection e with e3 e4 e5;subst e3 e4 e5;refine⟨S.n,ws,[],sz,aO ⟨rfl,rfl⟩,s.base.n,xN _,uV,hv.mono le fr,hs,hn,fun m hm=>?_⟩;show(if j=j/\m=n then some w else c.G j m)=none;rw [aG (fun x=>by omega)];exact h2 m
  ·rw [aC e2]at e
   obtain⟨b,ws',olds,sz',a1,a2,a3,a4,a5,a6,a7,a8⟩:=s.gD j vs' t' m e;refine⟨b,ws',olds,sz',le.G _ _ _ a1,a2,sD a3,by rw [iB (by omega)];exact a4,a5.mono le fr,a6,a7,fun q hq=>?_⟩;show(if j=i/\q=n then some w else c.G j q)=none;rw [aG (fun x=>e2 x.1)];exact a8 q hq
 ·intro j k b l1 l2
  rcases YK j b l1 with ⟨e1,e2⟩ | ⟨e1,l1⟩
  ·rcases YK k b l2 with ⟨e3,e4⟩ | ⟨e3,l2⟩
   ·rw [e1,e3]
   ·have:=(s.bd l2).2;omega
  ·rcases YK k b l2 with ⟨e3,e4⟩ | ⟨e3,l2⟩
   ·have:=(s.bd l1).2;omega
   ·exact s.inj j k b l1 l2
 ·intro j m u e
  have e:(if j=i/\m=n then some w else c.G j m)=some u:=e;by_cases e2:j=i/\m=n
  ·rw [aO e2]at e;injection e with e;exact⟨S.n,by rw [<-e,e2.2]⟩
  ·rw [aG e2]at e;exact s.Gs j m u e
 ·obtain⟨N,hN⟩:=s.room
  refine⟨max N (i+1),fun j hj=>?_⟩;obtain⟨a1,a2,a3⟩:=hN j (by omega);exact⟨by rw [aC (by omega)];exact a1,a2,fun m=>by show(if j=i/\m=n then some w else c.G j m)=none;rw [aG (fun x=>by omega)];exact a3 m⟩
 ·intro j vs' t' n' m b e e3
  have e3:(if j=i/\m=n then some w else c.G j m)=_:=e3;by_cases e2:j=i/\m=n
  ·rw [aO e2]at e3
   injection e3 with e3;injection e3 with e3;injection e3 with e3;injection e3 with e3;rw [<-e3];exact⟨s.base.n,xN _⟩
  ·rw [aG e2]at e3
   by_cases e4:j=i
   ·have e5:=e4▸h2 m;rw [e5]at e3;cases e3
   ·rw [aC e4]at e
    obtain⟨q1,q2⟩:=s.Gb j vs' t' n' m b e e3;exact⟨q1,sD q2⟩
 ·intro j vs' t' n' b ws' e' olds e e3 e5 x hx
  have e3:(if j=i/\n'=n then some w else c.G j n')=_:=e3;by_cases e4:j=i
  ·subst e4
   by_cases e6:n'=n
   ·rw [aO ⟨rfl,e6⟩]at e3
    injection e3 with e3;injection e3 with e3;injection e3 with e3;injection e3 with e3;rw [<-e3,uV]at e5;injection e5 with e5;injection e5 with _ _ e5;injection e5 with e5;rw [<-e5]at hx;cases hx
   ·rw [aG (fun x=>e6 x.2),h2]at e3;cases e3
  ·rw [aG (fun x=>e4 x.1)]at e3
   rw [aC e4]at e;rw [iB (by have:=(s.Gb j vs' t' n' n' b e e3).2;omega)]at e5;obtain⟨m,hm⟩:=s.old j vs' t' n' b ws' e' olds e e3 e5 x hx;exact⟨m,le.G _ _ _ hm⟩
theorem VS.aMd (s:VS P B Sb c h S){i n m b:Nat}{vs nv:List V}{t:TypeId}{sz:Nat}{ws nw:List Value}{olds:List Nat} (h0:h i=some (.gD vs t n)) (hb:c.G i n=some (.slice (some ⟨b,0,some 0⟩) n n)) (ho:S.obj b=some (.cells ws t (.grown olds))) (hs:cM P t=some sz)
 (hn:nv.length=m*sz) (hm:0<m) (KL:vs.length=n*sz) (hvw:lT c S (dO B c h) vs ws) (hv:lT c S (dO B c h) nv nw):
 let w:Value:= .slice (some ⟨S.n,0,some 0⟩) (n+m) (n+m)
 let S':=(S.set b (.cells ws t .uD)).new (.cells (ws++nw) t (.grown (b::olds)))
 VS P B Sb (c.putG i (n+m) w) (aL h i (.gD (vs++nv) t (n+m))) S'/\c.le (c.putG i (n+m) w)/\EP (dO B c h) S S' (dO B (c.putG i (n+m) w) (aL h i (.gD (vs++nv) t (n+m))))/\(c.putG i (n+m) w).G i (n+m)=some w:=by
 intro w S';obtain⟨b',_,_,_,q1,_,_,_,_,_,_,q8⟩:=s.gD i vs t n h0;have hlb:tP c h i b:= .inr ⟨vs,t,n,n,h0,hb⟩;obtain⟨g1,g2⟩:=s.bd hlb;have le:=Cx.putG_le (c:=c) (i:=i) (n:=n+m) (w:=w) (q8 _ (by omega));have hSn:(S.set b (.cells ws t .uD)).n=S.n:=rfl
 have YK:∀j x,tP (c.putG i (n+m) w) (aL h i (.gD (vs++nv) t (n+m))) j x->(j=i/\x=S.n)\/tP c h j x:=by
  intro j x l;by_cases e:j=i
  ·subst e
   rcases l with ⟨o',e1,eg,e2⟩ | ⟨vs',t',n',k,e1,e2⟩
   ·rw [aB]at e1;injection e1 with e1;subst e1;cases eg
   ·have e2:(if j=j/\k=n+m then some w else c.G j k)=_:=e2
    by_cases hk:k=n+m
    ·rw [aO ⟨rfl,hk⟩]at e2
     injection e2 with e2;injection e2 with e2;injection e2 with e2;injection e2 with e2;exact .inl ⟨rfl,e2.symm⟩
    ·rw [aG (fun x=>hk x.2)]at e2
     exact .inr (.inr ⟨vs,t,n,k,h0,e2⟩)
  ·refine .inr ?_
   rcases l with ⟨o',e1,eg,e2⟩ | ⟨vs',t',n',k,e1,e2⟩
   ·rw [aC e]at e1
    exact .inl ⟨o',e1,eg,e2⟩
   ·rw [aC e]at e1
    have e2:(if j=i/\k=n+m then some w else c.G j k)=_:=e2;rw [aG (fun x=>e x.1)]at e2;exact .inr ⟨vs',t',n',k,e1,e2⟩
 have fr:EP (dO B c h) S S' (dO B (c.putG i (n+m) w) (aL h i (.gD (vs++nv) t (n+m)))):=by
  refine⟨QF _,fun j hj hc=>?_,fun x l=>?_⟩
  ·show((S.set b _).new _).obj j=_
   rw [iB (by rw [hSn];omega),lE (show j≠b from fun e=>hc (.inr ⟨i,e▸hlb⟩))]
  ·rcases l with l | ⟨j,l⟩
   ·exact .inl (.inl l)
   ·rcases YK j x l with ⟨_,e⟩ | l
    ·exact .inr (Ak e.symm)
    ·exact .inl (.inr ⟨j,l⟩)
 have oth:∀j x,j≠i->tP c h j x->S'.obj x=S.obj x:=fun j x e l=>by
  have:x≠b:=fun e3=>e (s.inj j i b (e3▸l) hlb);show((S.set b _).new _).obj x=_;rw [iB (by rw [hSn];have:=(s.bd l).2;omega),lE this]
 refine⟨⟨⟨Nat.le_succ_of_le s.base.n,fun j hj=>?_⟩,s.bB,?_,?_,?_,?_,?_,s.WQ,?_,?_⟩,le,fr,aO ⟨rfl,rfl⟩⟩
 ·have:=s.base.n
  show((S.set b _).new _).obj j=_;rw [iB (by rw [hSn];omega),lE (by omega)];exact s.base.same j hj
 ·intro j o' e eg
  have e2:j≠i:=fun e2=>by subst e2;rw [aB]at e;injection e with e;subst e;cases eg
  rw [aC e2]at e;obtain⟨x,ws',a1,a2,a3,a4,a5⟩:=s.ob j o' e eg;exact⟨x,ws',a1,a2,sD a3,by rw [oth j x e2 (.inl ⟨o',e,eg,a1⟩)];exact a4,a5.mono le fr⟩
 ·intro j vs' t' k e
  by_cases e2:j=i
  ·subst e2
   rw [aB]at e;injection e with e;injection e with e3 e4 e5;subst e3 e4 e5;refine⟨S.n,ws++nw,b::olds,sz,aO ⟨rfl,rfl⟩,s.base.n,xN _,?_,(hvw.app hv).mono le fr,hs,by rw [kI,KL,hn,KC],fun q hq=>?_⟩
   ·show((S.set b _).new _).obj (S.set b (.cells ws t .uD)).n=_
    exact uV
   ·show(if j=j/\q=n+m then some w else c.G j q)=none
    rw [aG (fun x=>by omega)];exact q8 q (by omega)
  ·rw [aC e2]at e
   obtain⟨x,ws',Jc,sz',a1,a2,a3,a4,a5,a6,a7,a8⟩:=s.gD j vs' t' k e;refine⟨x,ws',Jc,sz',le.G _ _ _ a1,a2,sD a3,by rw [oth j x e2 (.inr ⟨vs',t',k,k,e,a1⟩)];exact a4,a5.mono le fr,a6,a7,fun q hq=>?_⟩;show(if j=i/\q=n+m then some w else c.G j q)=none;rw [aG (fun x=>e2 x.1)];exact a8 q hq
 ·intro j k x l1 l2
  rcases YK j x l1 with ⟨e1,e2⟩ | l1
  ·rcases YK k x l2 with ⟨e3,e4⟩ | l2
   ·rw [e1,e3]
   ·have:=(s.bd l2).2;omega
  ·rcases YK k x l2 with ⟨e3,e4⟩ | l2
   ·have:=(s.bd l1).2;omega
   ·exact s.inj j k x l1 l2
 ·intro j k u e
  have e:(if j=i/\k=n+m then some w else c.G j k)=some u:=e;by_cases e2:j=i/\k=n+m
  ·rw [aO e2]at e;injection e with e;exact⟨S.n,by rw [<-e,e2.2]⟩
  ·rw [aG e2]at e;exact s.Gs j k u e
 ·obtain⟨N,hN⟩:=s.room
  refine⟨max N (i+1),fun j hj=>?_⟩;obtain⟨a1,a2,a3⟩:=hN j (by omega);exact⟨by rw [aC (by omega)];exact a1,a2,fun q=>by show(if j=i/\q=n+m then some w else c.G j q)=none;rw [aG (fun x=>by omega)];exact a3 q⟩
 ·intro j vs' t' n' k x e e3
  rcases YK j x (.inr ⟨vs',t',n',k,e,e3⟩)with ⟨_,e4⟩ | l
  ·rw [e4];exact⟨s.base.n,xN _⟩
  ·obtain⟨q1,q2⟩:=s.bd l
   exact⟨q1,sD q2⟩
 ·intro j vs' t' n' x ws' e' Jc e e3 e5 y hy
  have e3:(if j=i/\n'=n+m then some w else c.G j n')=_:=e3;by_cases e4:j=i
  ·subst e4
   rw [aB]at e;injection e with e;injection e with _ _ e6;rw [aO ⟨rfl,e6.symm⟩]at e3;injection e3 with e3;injection e3 with e3;injection e3 with e3;injection e3 with e3
   have e7:S'.obj S.n=some (.cells (ws++nw) t (.grown (b::olds))):=by
    show((S.set b _).new _).obj (S.set b (.cells ws t .uD)).n=_;exact uV
   rw [<-e3,e7]at e5;injection e5 with e5;injection e5 with _ _ e5;injection e5 with e5;rw [<-e5]at hy;rcases List.mem_cons.1 hy with rfl | hy
   ·exact⟨n,le.G _ _ _ hb⟩
   ·obtain⟨q,hq⟩:=s.old j vs t n b ws t olds h0 hb ho y hy
    exact⟨q,le.G _ _ _ hq⟩
  ·rw [aG (fun x=>e4 x.1)]at e3
   rw [aC e4]at e;rw [oth j x e4 (.inr ⟨vs',t',n',n',e,e3⟩)]at e5;obtain⟨q,hq⟩:=s.old j vs' t' n' x ws' e' Jc e e3 e5 y hy;exact⟨q,le.G _ _ _ hq⟩
theorem VS.aJt (s:VS P B Sb c h S){i n b:Nat}{vs vs':List V}{t:TypeId}{ws ws':List Value}{olds ol kl:List Nat} (hol:∀x∈ol,x∈olds) (hkl:∀x∈kl,x∈olds) (h0:h i=some (.gD vs t n)) (hb:c.G i n=some (.slice (some ⟨b,0,some 0⟩) n n)) (ho:S.obj b=some (.cells ws t (.grown olds))) (hl:vs'.length=vs.length) (hv:lT c S (dO B c h) vs' ws'){S':St}
 (hn:S'.n=S.n) (hs:∀j,S'.obj j=if j=b then some (.cells ws' t (.grown ol))else if j∈kl then some .dead else S.obj j):
 VS P B Sb c (aL h i (.gD vs' t n)) S'/\EP (dO B c h) S S' (dO B c (aL h i (.gD vs' t n))):=by
 have hlb:tP c h i b:= .inr ⟨vs,t,n,n,h0,hb⟩
 have hold:∀x∈olds,tP c h i x:=fun x hx=>by
  obtain⟨m,hm⟩:=s.old i vs t n b ws t olds h0 hb ho x hx;exact .inr ⟨vs,t,n,m,h0,hm⟩
 have YK:∀j x,tP c (aL h i (.gD vs' t n)) j x->tP c h j x:=by
  intro j x l;by_cases e:j=i
  ·subst e
   rcases l with ⟨o',e1,eg,e2⟩ | ⟨vs2,t2,n',m,e1,e2⟩
   ·rw [aB]at e1;injection e1 with e1;subst e1;cases eg
   ·exact .inr ⟨vs,t,n,m,h0,e2⟩
  ·rcases l with ⟨o',e1,eg,e2⟩ | ⟨vs2,t2,n',m,e1,e2⟩
   ·rw [aC e]at e1;exact .inl ⟨o',e1,eg,e2⟩
   ·rw [aC e]at e1;exact .inr ⟨vs2,t2,n',m,e1,e2⟩
 have same:∀x,¬tP c h i x->S'.obj x=S.obj x:=fun x hx=>by
  rw [hs,aG (fun e:x=b=>hx (e▸hlb)),aG (fun e=>hx (hold x (hkl x e)))]
 have oth:∀j x,j≠i->tP c h j x->S'.obj x=S.obj x:=fun j x e l=>same x fun l2=>e (s.inj j i x l l2)
 have fr:EP (dO B c h) S S' (dO B c (aL h i (.gD vs' t n))):=by
  refine⟨Ak hn.symm,fun j _ hc=>same j fun l=>hc (.inr ⟨i,l⟩),fun x l=>?_⟩;rcases l with l | ⟨j,l⟩
  ·exact .inl (.inl l)
  ·exact .inl (.inr ⟨j,YK j x l⟩)
 refine⟨⟨⟨by rw [hn];exact s.base.n,fun j hj=>?_⟩,s.bB,?_,?_,fun j k x l1 l2=>s.inj j k x (YK j x l1) (YK k x l2),s.Gs,?_,s.WQ,?_,?_⟩,fr⟩
 ·rw [same j fun l=>by have:=(s.bd l).1;omega];exact s.base.same j hj
 ·intro j o' e eg
  have e2:j≠i:=fun e2=>by subst e2;rw [aB]at e;injection e with e;subst e;cases eg
  rw [aC e2]at e;obtain⟨x,a',a1,a2,a3,a4,a5⟩:=s.ob j o' e eg;exact⟨x,a',a1,a2,by rw [hn];exact a3,by rw [oth j x e2 (.inl ⟨o',e,eg,a1⟩)];exact a4,a5.mono (.refl c) fr⟩
 ·intro j vs2 t2 k e
  by_cases e2:j=i
  ·subst e2
   rw [aB]at e;injection e with e;injection e with e3 e4 e5;subst e3 e4 e5;obtain⟨x,ws2,Jc,sz',a1,a2,a3,a4,a5,a6,a7,a8⟩:=s.gD j vs t n h0;rw [hb]at a1;injection a1 with a1;injection a1 with a1;injection a1 with a1;injection a1 with a1;subst a1;exact⟨b,ws',ol,sz',hb,a2,by rw [hn];exact a3,by rw [hs,aO rfl],hv.mono (.refl c) fr,a6,by rw [hl];exact a7,a8⟩
  ·rw [aC e2]at e
   obtain⟨x,ws2,Jc,sz',a1,a2,a3,a4,a5,a6⟩:=s.gD j vs2 t2 k e;exact⟨x,ws2,Jc,sz',a1,a2,by rw [hn];exact a3,by rw [oth j x e2 (.inr ⟨vs2,t2,k,k,e,a1⟩)];exact a4,a5.mono (.refl c) fr,a6⟩
 ·obtain⟨N,hN⟩:=s.room
  refine⟨N,fun j hj=>?_⟩;obtain⟨a1,a2,a3⟩:=hN j hj;have:j≠i:=fun e=>by subst e;rw [h0]at a1;cases a1
  exact⟨by rw [aC this];exact a1,a2,a3⟩
 ·intro j vs2 t2 k m x e e3
  rw [hn];exact s.bd (YK j x (.inr ⟨vs2,t2,k,m,e,e3⟩))
 ·intro j vs2 t2 k x ws2 e' Jc e e3 e5 y hy
  by_cases e2:j=i
  ·subst e2
   rw [aB]at e;injection e with e;injection e with _ _ e6;subst e6;rw [hb]at e3;injection e3 with e3;injection e3 with e3;injection e3 with e3;injection e3 with e3;subst e3;rw [hs,aO rfl]at e5;injection e5 with e5;injection e5 with _ _ e5;injection e5 with e5;rw [<-e5]at hy;exact s.old j vs t n b ws t olds h0 hb ho y (hol y hy)
  ·rw [aC e2]at e
   rw [oth j x e2 (.inr ⟨vs2,t2,k,k,e,e3⟩)]at e5;exact s.old j vs2 t2 k x ws2 e' Jc e e3 e5 y hy
end
section
variable{α:Type}
theorem aBz (t:Tr α):∀(n:Nat) (k:α->Prop),aGk t n k->∃x,t.get n=some x/\k x:=by
 induction t with
 | leaf=>intro n k h;cases h
 | node v l r ihl ihr=>
  intro n k h;cases n with
  | zero=>
   cases v with
   | none=>cases h
   | some x=>exact⟨x,rfl,h⟩
  | succ p=>
   have h:pL (Nat.mod p 2) (aGk l (Nat.div p 2) k) (fun _=>aGk r (Nat.div p 2) k):=h;have hm:p%2=0\/p%2=1:=by omega
   rcases hm with hm | hm
   ·have:Nat.mod p 2=0:=hm
    rw [this]at h;obtain⟨x,e1,e2⟩:=ihl _ _ (show aGk l (Nat.div p 2) k from h);refine⟨x,?_,e2⟩;have e3:(p+1) / 2=Nat.div p 2:=by show _=p / 2;omega
    simp only [Tr.get,NO,NS,and_false,if_false,show(p+1)%2=1 by omega,if_true,e3];exact e1
   ·have:Nat.mod p 2=0+1:=hm
    rw [this]at h;obtain⟨x,e1,e2⟩:=ihr _ _ (show aGk r (Nat.div p 2) k from h);refine⟨x,?_,e2⟩;have e3:(p+1) / 2-1=Nat.div p 2:=by show _=p / 2;omega
    simp only [Tr.get,NO,NS,and_false,if_false,show ¬(p+1)%2=1 by omega,e3];exact e1
theorem aJu (t:Tr α){k:Prop}:∀(n:Nat),aGm t n k->t.get n=none/\k:=by
 induction t with
 | leaf=>intro n h;exact⟨rfl,h⟩
 | node v l r ihl ihr=>
  intro n h;cases n with
  | zero=>
   cases v with
   | none=>exact⟨rfl,h⟩
   | some x=>cases h
  | succ p=>
   have h:pL (Nat.mod p 2) (aGm l (Nat.div p 2) k) (fun _=>aGm r (Nat.div p 2) k):=h;have hm:p%2=0\/p%2=1:=by omega
   rcases hm with hm | hm
   ·have:Nat.mod p 2=0:=hm
    rw [this]at h;obtain⟨e1,e2⟩:=ihl _ (show aGm l (Nat.div p 2) k from h);refine⟨?_,e2⟩;have e3:(p+1) / 2=Nat.div p 2:=by show _=p / 2;omega
    simp only [Tr.get,NO,NS,and_false,if_false,show(p+1)%2=1 by omega,if_true,e3];exact e1
   ·have:Nat.mod p 2=0+1:=hm
    rw [this]at h;obtain⟨e1,e2⟩:=ihr _ (show aGm r (Nat.div p 2) k from h);refine⟨?_,e2⟩;have e3:(p+1) / 2-1=Nat.div p 2:=by show _=p / 2;omega
    simp only [Tr.get,NO,NS,and_false,if_false,show ¬(p+1)%2=1 by omega,e3];exact e1
theorem aMe (t:Tr α):∀(n:Nat) (k:Tr α->Prop),aJk t n k=k (t.del n):=by
 induction t with
 | leaf=>intro n k;rfl
 | node v l r il ir=>
  intro n k;cases n with
  | zero=>rfl
  | succ p=>
   show pL (p%2) (aJk l (p / 2) fun c=>k (.node v c r)) (fun _=>aJk r (p / 2) fun c=>k (.node v l c))=_;rw [il,ir];have aHr:p+1≠0:=by omega
   simp only [Tr.del,aG aHr];rcases Nat.mod_two_eq_zero_or_one p with h | h
   ·rw [h,aO (by omega),show(p+1) / 2=p / 2 by omega];rfl
   ·rw [h,aG (by omega),show(p+1) / 2-1=p / 2 by omega];rfl
theorem aMf (x:α):∀(f:Nat) (t:Tr α) (n:Nat) (k:Tr α->Prop),aGl x f t n k=k (Tr.JI x f t n):=by
 intro f;induction f with
 | zero=>intro t n k;rfl
 | succ f ih=>
  intro t n k;cases t with
  | leaf=>
   cases n with
   | zero=>rfl
   | succ p=>
    show pL (Nat.mod p 2) (aGl x f .leaf (Nat.div p 2) fun c=>k (.node none c .leaf)) (fun _=>aGl x f .leaf (Nat.div p 2) fun c=>k (.node none .leaf c))=_;rw [ih,ih];have hm:p%2=0\/p%2=1:=by omega
    rcases hm with hm | hm
    ·have:Nat.mod p 2=0:=hm
     rw [this];have e3:(p+1) / 2=Nat.div p 2:=by show _=p / 2;omega
     simp only [Tr.JI,NO,NS,and_false,if_false,show(p+1)%2=1 by omega,if_true,e3];rfl
    ·have:Nat.mod p 2=0+1:=hm
     rw [this];have e3:(p+1) / 2-1=Nat.div p 2:=by show _=p / 2;omega
     simp only [Tr.JI,NO,NS,and_false,if_false,show ¬(p+1)%2=1 by omega,e3];rfl
  | node v l r=>
   cases n with
   | zero=>rfl
   | succ p=>
    show pL (Nat.mod p 2) (aGl x f l (Nat.div p 2) fun c=>k (.node v c r)) (fun _=>aGl x f r (Nat.div p 2) fun c=>k (.node v l c))=_;rw [ih,ih];have hm:p%2=0\/p%2=1:=by omega
    rcases hm with hm | hm
    ·have:Nat.mod p 2=0:=hm
     rw [this];have e3:(p+1) / 2=Nat.div p 2:=by show _=p / 2;omega
     simp only [Tr.JI,NO,NS,and_false,if_false,show(p+1)%2=1 by omega,if_true,e3];rfl
    ·have:Nat.mod p 2=0+1:=hm
     rw [this];have e3:(p+1) / 2-1=Nat.div p 2:=by show _=p / 2;omega
     simp only [Tr.JI,NO,NS,and_false,if_false,show ¬(p+1)%2=1 by omega,e3];rfl
theorem PL{l:List α}{i:Nat}{k:α->Prop} (h:Em l i k):∃a,l[i]? =some a/\k a:=by
 unfold Em at h;split at h
 ·rename_i a e;exact⟨a,e,h⟩
 ·cases h
end
structure Kb (c:Cx) (S:St) (C:Nat->Prop) (l:List Nat):Prop where
 n0:c.n0<=S.n
 nd:l.Nodup
 ok:∀d∈l,c.n0<=d/\d<S.n/\¬C d/\S.obj d=some .defers
theorem Kb.mono{c d:Cx}{S S':St}{C C':Nat->Prop}{m:List Nat} (k:Kb c S C m) (l:c.le d) (f:EP C S S' C'):Kb d S' C' m:=by
 refine⟨by rw [l.n0];exact zR k.n0 f.n,k.nd,fun x hx=>?_⟩;obtain⟨h1,h2,h3,h4⟩:=k.ok x hx;refine⟨by rw [l.n0];exact h1,CZ h2 f.n,fun h=>?_,by rw [f.same x h2 h3];exact h4⟩;rcases f.sub _ h with h | h
 ·exact h3 h
 ·omega
structure AR (c:Cx) (S:St) (C:Nat->Prop) (A:VA) (A':bD):Prop where
 n:A.tmps.n=A'.tmps.n
 g:A.g=A'.g
 marks:Kb c S C A'.marks
 got:∀i v,A.tmps.t.get i=some v->∃w,A'.tmps.t.get i=some w/\fN c S C v w
 abs:∀i,A.tmps.t.get i=none->A'.tmps.t.get i=none
section
variable{P:Program}{B:Nat->Prop}{Sb:St}{c c' d:Cx}{h h':Hp}{S S':St}{C C':Nat->Prop}
theorem AR.mono{A:VA}{A':bD} (a:AR c S C A A') (l:c.le d) (f:EP C S S' C'):AR d S' C' A A':=
 ⟨a.n,a.g,a.marks.mono l f,fun i v e=>let⟨w,p,q⟩:=a.got i v e;⟨w,p,q.mono l f⟩,a.abs⟩
theorem AR.put{A:VA}{A':bD} (a:AR c S C A A'){i:Nat}{v:V}{w:Value} (hv:fN c S C v w):AR c S C ⟨⟨A.tmps.t.put i v,A.tmps.n⟩,A.g⟩ ⟨A'.tmps.put i w,A'.marks,A'.g⟩:=by
 refine⟨a.n,a.g,a.marks,fun j x e=>?_,fun j e=>?_⟩
 ·have e:(A.tmps.t.put i v).get j=some x:=e
  rw [BB]at e;show ∃w',(A'.tmps.t.put i w).get j=some w'/\_;rw [BB];by_cases hj:j=i
  ·rw [aO hj]at e ⊢;injection e with e;subst e;exact⟨w,rfl,hv⟩
  ·rw [aG hj]at e ⊢;exact a.got j x e
 ·have e:(A.tmps.t.put i v).get j=none:=e
  rw [BB]at e;show(A'.tmps.t.put i w).get j=none;rw [BB];by_cases hj:j=i
  ·rw [aO hj]at e;cases e
  ·rw [aG hj]at e ⊢;exact a.abs j e
theorem EC{A:VA}{A':bD} (a:AR c S C A A'){i:Nat}{k:V->Prop}{k':Value->Bool} (h:Sl A.tmps i k) (hk:∀v w,fN c S C v w->k v->k' w=true):XD A'.tmps i k'=true:=by
 obtain⟨v,e,hv⟩:=aBz _ _ _ h;obtain⟨w,e2,r⟩:=a.got i v e;unfold XD;rw [nE,e2];exact hk v w r hv
theorem XT{v:V}{T:Yo}{i:Nat}{k:Yo->Prop} (h:ZM v T i k):i<T.n/\k ⟨T.t.put i v,T.n⟩:=by
 obtain⟨t,n⟩:=T;unfold ZM at h;simp only at h;split at h
 ·rename_i hb
  rw [aMf]at h;exact⟨cJ hb,h⟩
 ·cases h
theorem Es{v:Value}{T:Tm}{i:Nat} (hi:i<T.n) (k:Tm->Bool):uE v T i k=k (T.put i v):=by
 unfold uE;rw [show Nat.blt i T.n=true from nO hi,QT];rfl
theorem Uv{A:VA}{A':bD} (a:AR c S C A A'){d:Tmp}{v:V}{w:Value} (hv:fN c S C v w){k:VA->Prop}{k':bD->Bool} (h:Po A d v k) (hk:∀B B',AR c S C B B'->k B->k' B'=true):mP A' (some d) w k'=true:=by
 obtain⟨T,g⟩:=A;obtain⟨h1,h2⟩:=XT (show ZM v T d (fun T=>k ⟨T,g⟩)from h);show uE w A'.tmps d (fun ts=>k' ⟨ts,A'.marks,A'.g⟩)=true;rw [Es (by rw [<-a.n];exact h1)];exact hk _ _ (a.put hv) h2
theorem aJv{v:Value}{x:V} (e:ofC v=some x):kO v=true/\fN c S C x v:=by
 unfold ofC at e;split at e
 ·rename_i cs
  split at e
  ·rename_i l hl
   injection e with e;subst e;have KL:lT c S C l cs:=XS hl;refine⟨?_,.agg KL.len KL.rd⟩;show cs.all bY=true
   have:∀(cs:List Value) (l:List V),LB cs=some l->cs.all bY=true:=by
    intro cs;induction cs with
    | nil=>intro _ _;rfl
    | cons a cs ih=>
     intro l h;unfold LB at h;split at h
     ·rename_i x hx
      split at h
      ·rename_i xs hxs
       simp only [UG,aBy hx,ih xs hxs,Bool.and_self]
      ·cases h
     ·cases h
   exact this cs l hl
  ·cases e
 ·have hf:=aBy e
  refine⟨?_,aJr e⟩;cases v<;>first | exact hf | (simp [bY]at hf)
theorem cF{A:VA}{A':bD} (a:AR c S C A A'){x:Operand}{k:V->Prop}{k':Value->Bool} (h:(AU x).f A k) (hk:∀v w,fN c S C v w->k v->k' w=true):vP A' x k'=true:=by
 cases x with
 | tmp t=>exact EC a h hk
 | const v=>
  unfold AU at h;cases e:ofC v with
  | none=>simp only [e]at h
  | some d=>
   simp only [e]at h;obtain⟨hf,r⟩:=aJv (c:=c) (S:=S) (C:=C) e;unfold vP;simp only [hf];exact hk d v r h
 | global g=>cases h
 | func f=>exact hk _ _ (.func (a':=[]) (d':=[]) rfl rfl (fun k v w e=>by simp at e) (fun k v w e=>by simp at e)) h
theorem Et{A:VA}{A':bD} (a:AR c S C A A'):∀{xs:List Operand} {k:List V->Prop} {k':List Value->Bool},(aGn xs).f A k->(∀vs ws,lT c S C vs ws->k vs->k' ws=true)->UJ A' xs k'=true:=by
 intro xs;induction xs with
 | nil=>intro k k' h hk;exact hk [] [] .nil h
 | cons x xs ih=>
  intro k k' h hk;have h:(AU x).f A (fun v=>(aGn xs).f A fun vs=>k (v::vs)):=h;refine cF a h fun v w r h=>?_;exact ih h fun vs ws rs h=>hk (v::vs) (w::ws) (.cons r rs) h
theorem VS.one (s:VS P B Sb c h S){v:V}{w:Value} (r:fN c S C v w) (ho:gB v=true):kU w=true:=by
 cases r<;>first
  | rfl
  | (simp [gB]at ho;done)
  | (rename_i e;obtain⟨b,rfl⟩:=s.Gs _ _ _ e;rfl)
  | (rename_i ht hd;cases hd<;>rfl)
theorem VS.aGq (s:VS P B Sb c h S){vs:List V}{ws:List Value} (r:lT c S C vs ws) (ho:vs.all gB=true):ws.all kU=true:=by
 rw [HZ]at ho ⊢;intro w hw;obtain⟨k,hk⟩:=ZW hw;have hl:=r.len;have hkl:=(List.getElem?_eq_some_iff.1 hk).1;exact s.one (r.rd k vs[k] w (aT (by omega)) hk) (ho _ (cO (by omega)))
theorem aJw (O:Tag):∀(l:List Dt) (o k:Nat),(Tl O o l)[k]? =(l[k]?).map fun d=>T (.sub O (o+k)) d:=by
 intro l;induction l with
 | nil=>intro o k;simp [Tl]
 | cons d l ih=>
  intro o k;cases k with
  | zero=>simp [Tl]
  | succ k=>
   simp only [Tl,ZV,ih];rw [show o+1+k=o+(k+1)by omega]
theorem aDh (O:Tag):∀(l:List Dt) (o:Nat),(Tl O o l).length=l.length:=by
 intro l;induction l with
 | nil=>intro o;rfl
 | cons d l ih=>intro o;simp [Tl,ih]
theorem Ho{O:Tag}{cs:List Dt}{b o n cc:Nat}{sp:Option Nat} (ht:RP c S C O (.slice (some ⟨b,o,sp⟩) n cc)) (hd:YJ S C (.list cs n) (.slice (some ⟨b,o,sp⟩) n cc)){k m:Nat} (hk:k+m<=cs.length) (hm:0<m):
 ∃ws e ck,S.obj b=some (.cells ws e ck)/\o+k+m<=ws.length/\lT c S C (Tl O k ((cs.drop k).take m)) ((ws.drop (o+k)).take m):=by
 cases hd with
 | emp=>simp at hk;omega
 | row BA hb hC ho hl hn hr=>
  rename_i ws e ck;refine⟨ws,e,ck,ho,by omega,by rw [aDh];simp;omega,fun j v w e1 e2=>?_⟩;rw [aJw,sC]at e1;rw [sC]at e2;by_cases hj:j<m
  ·rw [aO hj,qY]at e1 e2
   cases ed:cs[k+j]? with
   | none=>rw [ed]at e1;cases e1
   | some x=>
    rw [ed]at e1;injection e1 with e1;subst e1;have hw:ws[o+(k+j)]? =some w:=by rw [<-uP];exact e2
    exact aPr (hr (k+j) x w ed hw) (.sub ht hb hC ho hw)
  ·rw [aG hj]at e2;cases e2
theorem aEY (s:VS P B Sb c h S){a:V}{w:Value} (r:fN c S (dO B c h) a w){Kv:KV}{K:VK} (k:∀v w,fN c S (dO B c h) v w->Kv v h->K w S=true) (hv:aW a h Kv):rLd w S K=true:=by
 unfold aW at hv;split at hv
 ·rename_i i o
  cases r with
  | ptr hZ=>
   split at hv
   ·rename_i vs t e
    obtain⟨v,ev,hv⟩:=PL hv;obtain⟨b,ws,a1,a2,a3,a4,a5⟩:=s.row i vs t e;rw [hZ]at a1;injection a1 with a1;subst a1;obtain⟨u,eu,ru⟩:=a5.get ev;rw [aHV a4 eu];exact k v u ru hv
   ·cases hv
 ·rename_i O cs o
  cases r with
  | @uB _ _ b o0 n cc _ sp ht hd=>
   obtain⟨x,ex,hv⟩:=PL hv;have hlt:=(List.getElem?_eq_some_iff.1 ex).1;obtain⟨ws,e,ck,g1,g2,g3⟩:=Ho ht hd (k:=o) (m:=1) (by omega) (by omega);have hw:ws[o0+o]? =some (ws[o0+o]'(by omega)):=aT _;rw [aHV g1 hw];refine k _ _ (g3.rd 0 _ _ ?_ ?_) hv
   ·rw [aJw,sC,aO (by omega),qY,UH,ex];rfl
   ·rw [sC,aO (by omega),qY,UH];exact hw
 ·rename_i i n o
  cases r with
  | wL hG=>
   split at hv
   ·rename_i vs t m e
    obtain⟨rfl,hv⟩:=hv;obtain⟨v,ev,hv⟩:=PL hv;obtain⟨b,ws,olds,sz,a1,a2,a3,a4,a5,a6⟩:=s.gD i vs t m e;rw [hG]at a1;injection a1 with a1;injection a1 with a1;injection a1 with a1;injection a1 with a1;subst a1;obtain⟨u,eu,ru⟩:=a5.get ev;rw [aHV a4 eu];exact k v u ru hv
   ·cases hv
 ·cases hv
theorem aBA (s:VS P B Sb c h S){n:Nat} (hn:0<n){a:V}{w:Value} (r:fN c S (dO B c h) a w){Kv:KV}{K:VK} (k:∀v w,fN c S (dO B c h) v w->Kv v h->K w S=true) (hv:bR n a h Kv):aHH n w S K=true:=by
 unfold bR at hv;split at hv
 ·rename_i i o
  cases r with
  | ptr hZ=>
   split at hv
   ·rename_i vs t e
    obtain⟨hl,hv⟩:=hv;obtain⟨b,ws,a1,a2,a3,a4,a5⟩:=s.row i vs t e;rw [hZ]at a1;injection a1 with a1;subst a1;have:=a5.len;rw [aCJ a4 (by omega)];exact k _ _ (.agg ((a5.drop o).take n).len ((a5.drop o).take n).rd) hv
   ·cases hv
 ·rename_i O cs o
  cases r with
  | @uB _ _ b o0 m cc _ sp ht hd=>
   obtain⟨hl,hv⟩:=hv;obtain⟨ws,e,ck,g1,g2,g3⟩:=Ho ht hd hl hn;rw [aCJ g1 g2];exact k _ _ (.agg g3.len g3.rd) hv
 ·rename_i i m o
  cases r with
  | wL hG=>
   split at hv
   ·rename_i vs t m' e
    obtain⟨rfl,hl,hv⟩:=hv;obtain⟨b,ws,olds,sz,a1,a2,a3,a4,a5,a6⟩:=s.gD i vs t m' e;rw [hG]at a1;injection a1 with a1;injection a1 with a1;injection a1 with a1;injection a1 with a1;subst a1;have:=a5.len;rw [aCJ a4 (by omega)];exact k _ _ (.agg ((a5.drop o).take n).len ((a5.drop o).take n).rd) hv
   ·cases hv
 ·cases hv
theorem RQ (s:VS P B Sb c h S){x:V}{w:Value} (r:fN c S C x w){k:List V->Prop} (hv:wM x k):∃vs ws,lT c S C vs ws/\k vs/\ws.all kU=true/\∀K:List Value->Bool,pM w K=K ws:=by
 unfold wM at hv;split at hv
 ·rename_i cs
  obtain⟨ho,hv⟩:=hv;cases r with
  | agg la ha=>
   rename_i a';have hr:lT c S C cs a':=⟨la,ha⟩;have:=s.aGq hr ho;refine⟨cs,a',hr,hv,this,fun K=>?_⟩;show(match xP kU a' with | true=>K a' | false=>false)=_;rw [nD,this]
 ·cases hv
 ·rename_i h1 h2
  have ho:gB x=true:=by cases x<;>first | rfl | exact bC rfl (h1 _) | exact bC rfl (h2 _)
  have:=s.one r ho;exact⟨[x],[w],.cons r .nil,hv,by simp [this],fun K=>aA4 this K⟩
theorem Bm (s:VS P B Sb c h S){i o b:Nat}{vs cs:List V}{ws:List Value}{t:TypeId} (e:h i=some (.row vs t)) (hZ:c.Z i=some b) (g:lT c S (dO B c h) cs ws) (hl:o+cs.length<=vs.length){Kv:Hp->Prop}{K:St->Bool} (k:∀h' S',EP (dO B c h) S S' (dO B c h')->VS P B Sb c h' S'->Kv h'->K S'=true) (hv:Kv (aL h i (.row (bA o cs vs) t))):uQ S b o ws K=true:=by
 obtain⟨b',us,a1,a2,a3,a4,a5⟩:=s.row i vs t e;rw [hZ]at a1;injection a1 with a1;subst a1;have l1:=a5.len;have l2:=g.len;unfold uQ;rw [KW a4];show sW o ws us (fun vs=>sV S b (.cells vs t .exact) K)=true;rw [BJ,aO (by omega),gU];obtain⟨s1,s2⟩:=s.setRow e hZ (a5.bA g o);exact k _ _ s2 s1 hv
theorem RB (s:VS P B Sb c h S){i n o b:Nat}{vs cs:List V}{ws:List Value}{t:TypeId} (e:h i=some (.gD vs t n)) (hG:c.G i n=some (.slice (some ⟨b,0,some 0⟩) n n)) (g:lT c S (dO B c h) cs ws) (hl:o+cs.length<=vs.length){Kv:Hp->Prop}{K:St->Bool} (k:∀h' S',EP (dO B c h) S S' (dO B c h')->VS P B Sb c h' S'->Kv h'->K S'=true) (hv:Kv (aL h i (.gD (bA o cs vs) t n))):uQ S b o ws K=true:=by
 obtain⟨b',us,olds,sz,a1,a2,a3,a4,a5,a6⟩:=s.gD i vs t n e;rw [hG]at a1;injection a1 with a1;injection a1 with a1;injection a1 with a1;injection a1 with a1;subst a1;have l1:=a5.len;have l2:=g.len;have VZ:(bA o cs vs).length=vs.length:=by unfold bA;simp;omega
 unfold uQ;rw [KW a4]
 show(MI o us fun l=>match Gd ws l with
  | true=>K S
  | false=>sW o ws us fun vs=>Sz olds S.h fun h=>YA (.cells vs t (.grown [])) (Nat.succ b) h b fun h=>K ⟨h,S.n⟩)=true
 rw [DJ,aO (by omega)];cases hs:Gd ws (us.drop o)with
 | true=>
  obtain⟨_,q⟩:=Tv hs
  have hus:bA o ws us=us:=by
   apply xM;intro j;rw [sF _ _ _ (by omega)];split
   ·rename_i hj
    have:=q (j-o) _ (aT (by omega));rw [qY,show o+(j-o)=j by omega]at this;rw [this,aT (by omega)]
   ·rfl
  obtain⟨s1,s2⟩:=s.aJt (vs':=bA o cs vs) (ws':=us) (olds:=olds) (ol:=olds) (kl:=[]) (fun _ h=>h) (fun _ h=>by cases h) e hG a4 VZ (by have:=a5.bA g o;rwa [hus]at this) (S':=S) rfl (fun j=>by
   by_cases hj:j=b
   ·rw [aO hj,hj,a4]
   ·rw [aG hj,aG (by simp)])
  exact k _ _ s2 s1 hv
 | false=>
  show(sW o ws us fun vs=>Sz olds S.h fun h=>YA (.cells vs t (.grown [])) (Nat.succ b) h b fun h=>K ⟨h,S.n⟩)=true;rw [BJ,aO (by omega),aAp,QT]
  obtain⟨s1,s2⟩:=s.aJt (vs':=bA o cs vs) (ws':=bA o ws us) (olds:=olds) (ol:=[]) (kl:=olds) (fun _ h=>by cases h) (fun _ h=>h) e hG a4 VZ (a5.bA g o) (S':=⟨Tr.JI (jB.cells (bA o ws us) t (CK.grown [])) b.succ (olds.foldl (fun h i=>h.put i jB.dead) S.h) b,S.n⟩) rfl (fun j=>by
   show Tr.get (Tr.JI _ (b+1) _ b) j=_;rw [Ms _ _ _ _ _ (xN b),aAq];rfl)
  exact k _ _ s2 s1 hv
theorem aMg (s:VS P B Sb c h S){n:Nat}{a x:V}{w y:Value} (r:fN c S (dO B c h) a w) (q:fN c S (dO B c h) x y){Kv:Hp->Prop}{K:St->Bool} (k:∀h' S',EP (dO B c h) S S' (dO B c h')->VS P B Sb c h' S'->Kv h'->K S'=true) (hv:nI n a x h Kv):rSt n w y S K=true:=by
 unfold nI at hv;split at hv
 ·rename_i i o
  cases r with
  | @ptr _ _ b hZ=>
   split at hv
   ·rename_i vs t e
    obtain⟨cs,ws,g1,⟨g2,g3,g4⟩,g5,g6⟩:=RQ s q hv;have l2:=g1.len;show pM y (fun cs=>KD cs fun m=>match Nat.beq m n with | true=>uQ S b o cs K | false=>false)=true;rw [g6,nY,show Nat.beq ws.length n=true by rw [<-l2,g2];exact Ag n];exact Bm s e hZ g1 (by omega) k g4
   ·cases hv
 ·rename_i i q' o
  cases r with
  | @wL _ _ _ b hG=>
   split at hv
   ·rename_i vs t m e
    obtain⟨rfl,hv⟩:=hv;obtain⟨cs,ws,g1,⟨g2,g3,g4⟩,g5,g6⟩:=RQ s q hv;have l2:=g1.len;show pM y (fun cs=>KD cs fun m=>match Nat.beq m n with | true=>uQ S b o cs K | false=>false)=true;rw [g6,nY,show Nat.beq ws.length n=true by rw [<-l2,g2];exact Ag n];exact RB s e hG g1 (by omega) k g4
   ·cases hv
 ·cases hv
end
section
variable{P:Program}{B:Nat->Prop}{Sb:St}{c c' d:Cx}{h h':Hp}{S S':St}{C C':Nat->Prop}
def KR (P:Program) (B:Nat->Prop) (Sb:St) (c:Cx) (h:Hp) (S:St) (Kv:KV) (K:VK):Prop:=
 ∀c' h' S' v w,c.le c'->EP (dO B c h) S S' (dO B c' h')->VS P B Sb c' h' S'->fN c' S' (dO B c' h') v w->Kv v h'->K w S'=true
theorem KR.here{Kv:KV}{K:VK} (k:KR P B Sb c h S Kv K) (s:VS P B Sb c h S){v:V}{w:Value} (r:fN c S (dO B c h) v w) (hk:Kv v h):K w S=true:=k c h S v w (.refl c) (.refl _ S) s r hk
theorem Eu (s:VS P B Sb c h S){vs:List V}{ws:List Value}{t:TypeId} (hv:lT c S (dO B c h) vs ws){Kn:Nat->Hp->Prop} (hn:aJf vs t h Kn):
 ∃c' h' i,c.le c'/\EP (dO B c h) S (S.new (.cells ws t .exact)) (dO B c' h')/\VS P B Sb c' h' (S.new (.cells ws t .exact))/\c'.Z i=some S.n/\Kn i h':=by
 obtain⟨i,e1,e2,e3⟩:=s.fresh;obtain⟨a1,a2,a3,a4⟩:=s.newRow e1 e2 e3 t hv;exact⟨_,_,i,a2,a3,a1,a4,hn i e1⟩
theorem aDi (s:VS P B Sb c h S){z:List Value}{t:TypeId}{Kv:KV}{K:VK} (k:KR P B Sb c h S Kv K) (hv:dQ z t h Kv):Gy z t S K=true:=by
 unfold dQ rR at hv;split at hv
 ·rename_i l e
  obtain⟨c',h',i,a1,a2,a3,a4,a5⟩:=Eu s (XS e) hv;rw [aHX];exact k c' h' _ _ _ a1 a2 a3 (.ptr a4) a5
 ·cases hv
theorem aJx (s:VS P B Sb c h S){t:TypeId}{x:V}{w:Value} (r:fN c S (dO B c h) x w){Kv:KV}{K:VK} (k:KR P B Sb c h S Kv K) (hv:iG t x h Kv):aAc t w S K=true:=by
 obtain⟨cs,ws,g1,g2,g3,g4⟩:=RQ s r hv;obtain⟨c',h',i,a1,a2,a3,a4,a5⟩:=Eu s g1 g2;unfold aAc;rw [g4,jF];exact k c' h' _ _ _ a1 a2 a3 (.ptr a4) a5
def PsR (c:Cx) (S:St) (C:Nat->Prop):List (Nat×Nat×V)->List (Nat×Nat×Value)->Prop
 | [],[]=>True
 | (o,n,v)::l,(o',n',w)::m=>o=o'/\n=n'/\fN c S C v w/\PsR c S C l m
 | _,_=>False
theorem Uw (s:VS P B Sb c h S):∀{ps:List (Nat×Nat×V)} {Ra:List (Nat×Nat×Value)} {cs:List V} {cs':List Value} {k:List V->Prop} {k':List Value->Bool},PsR c S C ps Ra->lT c S C cs cs'->iF ps cs k->(∀cs cs',lT c S C cs cs'->k cs->k' cs'=true)->VV Ra cs' k'=true:=by
 intro ps;induction ps with
 | nil=>
  intro Ra cs cs' k k' hp hc hv hk
  match Ra,hp with
  | [],_=>exact hk cs cs' hc hv
 | cons p ps ih=>
  intro Ra cs cs' k k' hp hc hv hk;obtain⟨o,n,v⟩:=p
  match Ra,hp with
  | (o',n',w)::Ra,hp=>
   obtain⟨rfl,rfl,r,hp⟩:=hp;obtain⟨vs,ws,g1,⟨g2,g3,g4⟩,g5,g6⟩:=RQ s r hv;have l1:=g1.len;have l2:=hc.len;show pM w (fun new=>KD new fun m=>match Nat.beq m n with | true=>sW o new cs' (fun cs=>VV Ra cs k') | false=>false)=true;rw [g6,nY,show Nat.beq ws.length n=true by rw [<-l1,g2];exact Ag n];show sW o ws cs' (fun cs=>VV Ra cs k')=true;rw [BJ,aO (by omega)];exact ih hp (hc.bA g1 o) g4 hk
theorem Bn{A:VA}{A':bD} (a:AR c S C A A'){place:Nat->Option (Nat×Nat)}:∀{ps:List (Nat×Operand)} {k:List (Nat×Nat×V)->Prop} {k':List (Nat×Nat×Value)->Bool},(Hn place ps).f A k->(∀l l',PsR c S C l l'->k l->k' l'=true)->(KU place ps).f A' k'=true:=by
 intro ps;induction ps with
 | nil=>intro k k' hv hk;exact hk [] [] trivial hv
 | cons p ps ih=>
  intro k k' hv hk
  have e1:Hn place (p::ps)=match place p.1 with
   | some (off,size)=>⟨fun A k=>(AU p.2).f A fun v=>(Hn place ps).f A fun l=>k ((off,size,v)::l)⟩
   | none=>⟨fun _ _=>False⟩:=rfl
  have e2:KU place (p::ps)=match place p.1 with
   | some (off,size)=>⟨fun A k=>(BC p.2).f A fun v=>(KU place ps).f A fun l=>k ((off,size,v)::l)⟩
   | none=>⟨fun _ _=>false⟩:=rfl
  rw [e1]at hv;rw [e2];cases hp:place p.1 with
  | none=>rw [hp]at hv;cases hv
  | some q=>
   obtain⟨off,size⟩:=q;rw [hp]at hv;simp only at hv ⊢;rw [kZ];refine cF a hv fun v w r hv=>?_;exact ih hv fun l l' hl h=>hk ((off,size,v)::l) ((off,size,w)::l') ⟨rfl,rfl,r,hl⟩ h
theorem Pp (s:VS P B Sb c h S){z:List Value}{ps:List (Nat×Nat×V)}{Ra:List (Nat×Nat×Value)} (hp:PsR c S C ps Ra){Kv:V->Prop}{K:Value->Bool} (k:∀v w,fN c S C v w->Kv v->K w=true) (hv:cS z ps Kv):aCG z Ra K=true:=by
 unfold cS rR at hv;split at hv
 ·rename_i l e
  exact Uw s hp (XS e) hv fun cs cs' r h=>k _ _ (.agg r.len r.rd) h
 ·cases hv
theorem aBB (s:VS P B Sb c h S){el n:Nat}{z:List Value}{ps:List (Nat×Nat×V)}{Ra:List (Nat×Nat×Value)} (hp:PsR c S (dO B c h) ps Ra){Kv:KV}{K:VK} (k:KR P B Sb c h S Kv K) (hv:aS el n z ps h Kv):Xf el n z Ra S K=true:=by
 unfold aS rR at hv;split at hv
 ·rename_i l e
  unfold Xf;rw [GK];refine Uw s hp ((XS e).flatten n) hv fun cs cs' r hv=>?_;obtain⟨c',h',i,a1,a2,a3,a4,a5⟩:=Eu s r hv;rw [jF];exact k c' h' _ _ _ a1 a2 a3 (.own a4) a5
 ·cases hv
theorem aJy{off:Nat}{x:V}{w:Value} (r:fN c S C x w){Kv:V->Prop}{K:Value->Bool} (k:∀v w,fN c S C v w->Kv v->K w=true) (hv:aV off x Kv):aHI off w K=true:=by
 unfold aV at hv;split at hv
 ·cases r with | ptr e=>rw [aCI];exact k _ _ (.ptr e) hv
 ·cases r with | uB ht hd=>rw [aCI,uP];exact k _ _ (.uB ht hd) hv
 ·cases r with | wL e=>rw [aCI];exact k _ _ (.wL e) hv
 ·cases hv
theorem aDj{off:Nat}{x:V}{w:Value} (r:fN c S C x w){Kv:V->Prop}{K:Value->Bool} (k:∀v w,fN c S C v w->Kv v->K w=true) (hv:aC8 off x Kv):Nx off w K=true:=by
 unfold aC8 at hv;split at hv
 ·cases r with
  | agg la ha=>
   obtain⟨v,e,hv⟩:=PL hv;obtain⟨u,eu,ru⟩:=lT.get ⟨la,ha⟩ e;rw [aHW eu];exact k v u ru hv
 ·cases hv
theorem aBC{off n:Nat}{x:V}{w:Value} (r:fN c S C x w){Kv:V->Prop}{K:Value->Bool} (k:∀v w,fN c S C v w->Kv v->K w=true) (hv:Yj off n x Kv):Dj off n w K=true:=by
 unfold Yj at hv;split at hv
 ·cases r with
  | agg la ha=>
   obtain⟨hl,hv⟩:=hv;have hr:lT c S C _ _:=⟨la,ha⟩;rw [aFY (by omega)];exact k _ _ (.agg ((hr.drop off).take n).len ((hr.drop off).take n).rd) hv
 ·cases hv
theorem aJz (s:VS P B Sb c h S){size:Nat}{x ix:V}{w iw:Value} (r:fN c S C x w) (ri:fN c S C ix iw){Kv:V->Prop}{K:Value->Bool} (k:∀v w,fN c S C v w->Kv v->K w=true) (hv:cV size x ix Kv):aLk size w iw K=true:=by
 unfold cV at hv;split at hv
 ·rename_i j i
  cases ri;split at hv
  ·obtain⟨hi,hv⟩:=hv
   cases r with
   | list ht hd=>
    cases hd with
    | nil=>omega
    | emp=>omega
    | @row b0 o0 _ cc sp us e0 ck0 _ BA hb hC ho hl hn hr=>
     have hlt:Nat.blt i _=true:=nO hi;have:=k _ _ (.uB ht (.row BA hb hC ho hl hn hr)) hv
     match sp,BA with
     | none,_=>show(match Nat.blt i _ with | true=>_ | false=>false)=true;rw [hlt,bJ];exact this
     | some 0,_=>show(match Nat.blt i _ with | true=>_ | false=>false)=true;rw [hlt,bJ];exact this
  ·obtain⟨hi,hv⟩:=hv
   cases r with
   | own e=>
    have hlt:Nat.blt i _=true:=nO hi;show(match Nat.blt i _ with | true=>_ | false=>false)=true;rw [hlt,bJ];exact k _ _ (.ptr e) hv
  ·obtain⟨hi,hv⟩:=hv
   cases r with
   | acc e=>
    obtain⟨b,rfl⟩:=s.Gs _ _ _ e;have hlt:Nat.blt i _=true:=nO hi;show(match Nat.blt i _ with | true=>_ | false=>false)=true;rw [hlt,bJ,eJ];exact k _ _ (.wL e) hv
  ·obtain⟨hi,hv⟩:=hv
   cases r with
   | HW e=>
    have hlt:Nat.blt i _=true:=nO hi;show(match Nat.blt i _ with | true=>_ | false=>false)=true;rw [hlt,bJ];exact k _ _ (.wL e) hv
  ·cases hv
 ·cases hv
theorem aDk{x ix:V}{w iw:Value} (r:fN c S C x w) (ri:fN c S C ix iw){Kv:V->Prop}{K:Value->Bool} (k:∀v w,fN c S C v w->Kv v->K w=true) (hv:aC9 x ix Kv):Xa w iw K=true:=by
 unfold aC9 at hv;split at hv
 ·cases ri
  split at hv
  ·rename_i l
   cases r;obtain⟨b,e,hv⟩:=PL hv;show YB l _ (fun b:UInt8=>bX b.toNat fun n=>K (.int .u8 (.ofNat n)))=true;rw [Xg e,bJ];exact k _ _ .int hv
  ·cases hv
 ·cases hv
theorem aJA{i:Nat}{x:V}{w:Value} (r:fN c S C x w){Kv:V->Prop}{K:Value->Bool} (k:∀v w,fN c S C v w->Kv v->K w=true) (hv:vB i x Kv):aHP i w K=true:=by
 unfold vB at hv;split at hv
 ·cases r with
  | tuple la ha=>
   obtain⟨v,e,hv⟩:=PL hv;obtain⟨u,eu,ru⟩:=lT.get ⟨la,ha⟩ e;rw [aOp,Xg eu];exact k v u ru hv
 ·cases hv
theorem aJB{kd:IntKind}{x:V}{w:Value} (r:fN c S C x w){Kv:V->Prop}{K:Value->Bool} (k:∀v w,fN c S C v w->Kv v->K w=true) (hv:LE kd x Kv):aHO kd w K=true:=by
 unfold LE at hv;split at hv
 ·cases r;rw [aOq];exact k _ _ .int hv
 ·cases hv
theorem aGr (s:VS P B Sb c h S){x:V}{w:Value} (r:fN c S C x w){Kv:V->Prop}{K:Value->Bool} (k:∀v w,fN c S C v w->Kv v->K w=true) (hv:bP x Kv):aEf w K=true:=by
 unfold bP at hv;split at hv
 ·cases r with
  | list ht hd=>cases hd<;>exact k _ _ .int hv
 ·cases r;exact k _ _ .int hv
 ·cases r with
  | acc e=>obtain⟨b,rfl⟩:=s.Gs _ _ _ e;exact k _ _ .int hv
 ·cases r;exact k _ _ .int hv
 ·cases r;exact k _ _ .int hv
 ·cases r;exact k _ _ .int hv
 ·cases hv
theorem aGs{x:V}{w:Value} (r:fN c S C x w){Kv:V->Prop}{K:Value->Bool} (k:∀v w,fN c S C v w->Kv v->K w=true) (hv:aJg x Kv):aA1 w K=true:=by
 unfold aJg at hv;split at hv
 ·cases r;rw [aLp];exact k _ _ .int hv
 ·cases hv
theorem Src.aDl{i o n cc size:Nat}{sp:Option Nat} (BA:Re sp=true){vs:List Value}{e:TypeId}{ck:CK} (ho:S.obj i=some (.cells vs e ck)) (hn:o+n*size<=vs.length) (h1:∀v∈(vs.drop o).take (n*size),kU v=true):Src S size (.slice (some ⟨i,o,sp⟩) n cc) n ((vs.drop o).take (n*size)):=by
 refine⟨fun k=>rfl,fun k hz=>?_,h1⟩;obtain⟨m,rfl⟩:=bH hz
 match sp,BA with
 | none,_=>show OH S i o ((m+1)*size) k=_;rw [XK ho hn]
 | some 0,_=>show OH S i o ((m+1)*size) k=_;rw [XK ho hn]
theorem aBD (s:VS P B Sb c h S){size:Nat} (hs0:0<size){x:V}{w:Value} (r:fN c S (dO B c h) x w){kv:Nat->List V->Prop} (hv:Sa size x h kv):∃n vs ws,kv n vs/\lT c S (dO B c h) vs ws/\vs.length=n*size/\(∀k,RZ w k=k n)/\(vs.all gB=true->Src S size w n ws):=by
 unfold Sa at hv;split at hv
 ·cases r
  exact⟨0,[],[],hv,.nil,by simp,fun k=>rfl,fun _=>⟨fun k=>rfl,fun k hz=>bC rfl hz,fun v hv=>by cases hv⟩⟩
 ·rename_i O cs n
  obtain⟨hl,hv⟩:=hv;cases r with
  | list ht hd=>
   have hlen:∀k,RZ w k=k n:=fun k=>by cases hd<;>rfl
   rcases NP n with hz | hz
   ·subst hz
    refine⟨0,_,[],hv,?_,by simp [aDh],hlen,fun _=>⟨hlen,fun k hz=>bC rfl hz,fun v hv=>by cases hv⟩⟩;rw [Af,List.take_zero];exact .nil
   ·cases hd with
    | nil=>omega
    | emp=>omega
    | @row b o _ cc sp vs e ck _ BA hb hC ho FN hn hr=>
     have IE:0<n*size:=Nat.mul_pos hz hs0;obtain⟨us,e',ck',g1,g2,g3⟩:=Ho ht (.row BA hb hC ho FN hn hr) (k:=0) (m:=n*size) (by omega) IE;rw [ho]at g1;injection g1 with g1;injection g1 with g1;subst g1;rw [xO,UH]at g3;refine⟨n,_,_,hv,g3,by rw [aDh,mU];omega,hlen,fun h1=>Src.aDl BA ho (by omega) fun v hv=>?_⟩;exact List.all_eq_true.1 (s.aGq g3 h1) v hv
 ·rename_i i o n cc
  cases r with
  | own hZ=>
   split at hv
   ·rename_i vs t e
    obtain⟨hl,hv⟩:=hv;obtain⟨b,ws,a1,a2,a3,a4,a5⟩:=s.row i vs t e;rw [hZ]at a1;injection a1 with a1;subst a1;have l:=a5.len;have hr:=(a5.drop o).take (n*size);refine⟨n,_,_,hv,hr,by rw [mU,IA];omega,fun k=>rfl,fun h1=>Src.row a4 (by omega) fun v hv=>List.all_eq_true.1 (s.aGq hr h1) v hv⟩
   ·cases hv
 ·rename_i i n
  cases r with
  | acc hG=>
   split at hv
   ·rename_i vs t m e
    obtain⟨rfl,hl,hv⟩:=hv;obtain⟨b,ws,olds,sz,a1,a2,a3,a4,a5,a6⟩:=s.gD i vs t m e;rw [hG]at a1;injection a1 with a1;subst a1;have l:=a5.len;refine⟨m,vs,ws,hv,a5,hl,fun k=>rfl,fun h1=>?_⟩;have:=Src.aDl (n:=m) (cc:=m) (size:=size) (o:=0) (sp:=some 0) rfl a4 (by omega) (fun v hv=>List.all_eq_true.1 (s.aGq a5 h1) v (by rw [xO]at hv;exact Fv hv))
    rwa [xO,mC (by omega)]at this
   ·cases hv
 ·rename_i i n o q cc
  cases r with
  | HW hG=>
   split at hv
   ·rename_i vs t m e
    obtain⟨rfl,hl,hv⟩:=hv;obtain⟨b,ws,olds,sz,a1,a2,a3,a4,a5,a6⟩:=s.gD i vs t m e;rw [hG]at a1;injection a1 with a1;injection a1 with a1;injection a1 with a1;injection a1 with a1;subst a1;have l:=a5.len;have hr:=(a5.drop o).take (q*size);refine⟨q,_,_,hv,hr,by rw [mU,IA];omega,fun k=>rfl,fun h1=>Src.aDl (n:=q) (cc:=cc) (size:=size) (o:=o) (sp:=some 0) rfl a4 (by omega) fun v hv=>List.all_eq_true.1 (s.aGq hr h1) v hv⟩
   ·cases hv
 ·cases r
  exact⟨0,[],[],hv,.nil,by simp,fun k=>rfl,fun _=>⟨fun k=>rfl,fun k hz=>bC rfl hz,fun v hv=>by cases hv⟩⟩
 ·rename_i l
  cases r;obtain⟨rfl,hv⟩:=hv;have hx:=Src.text S l;refine⟨l.length,_,Xi l,hv,⟨by simp [Xi],fun k v w e1 e2=>?_⟩,by simp,hx.len,fun _=>hx⟩;unfold Xi at e2;rw [eH]at e1 e2;cases e:l[k]? with
  | none=>rw [e]at e1;cases e1
  | some b=>rw [e]at e1 e2;injection e1 with e1;injection e2 with e2;subst e1 e2;exact .int
 ·cases hv
theorem aJC (s:VS P B Sb c h S){el size bytes:Nat} (hs0:0<size) (hsz:cM P el=some size){y x:V}{w u:Value} (r:fN c S (dO B c h) y w) (q:fN c S (dO B c h) x u){Kv:KV}{K:VK} (k:KR P B Sb c h S Kv K) (hv:jW el size bytes y x h Kv):aCE P el size bytes w u S K=true:=by
 obtain⟨m,vs,ws,hv,hr,hl,hlen,aAL⟩:=aBD s hs0 q hv;cases m with
 | zero=>
  have hap:∀b n cc,w= .slice b n cc->n<=cc->Kv y h->aCE P el size bytes w u S K=true:=fun b n cc e hn hk=>by
   have hw:=k.here s r hk;subst e;show RZ u _=true;rw [hlen];show(match Nat.ble n cc with | true=>K (.slice b n cc) S | false=>false)=true;rw [show Nat.ble n cc=true from nO hn];exact hw
  simp only at hv;split at hv
  ·cases r;exact hap _ _ _ rfl (bQ _) hv
  ·cases r with
   | acc e=>obtain⟨b,rfl⟩:=s.Gs _ _ _ e;exact hap _ _ _ rfl (bQ _) hv
  ·cases r;exact hap _ _ _ rfl hv.1 hv.2
  ·cases r with
   | list ht hd=>
    cases hd with
    | nil=>exact hap _ _ _ rfl (bQ _) hv
    | emp=>exact hap _ _ _ rfl (bQ _) hv
    | row _ _ _ _ _ hn _=>exact hap _ _ _ rfl hn hv
  ·cases hv
 | succ m=>
  obtain⟨h1,hv⟩:=hv;have hx:=aAL h1;split at hv
  ·obtain⟨hb,hv⟩:=hv
   cases r;rw [aHY hx (by omega) hb];obtain⟨i,e1,e2,e3⟩:=s.fresh;obtain⟨a1,a2,a3,a4⟩:=s.aJs e1 e2 e3 hsz hl hr;exact k _ _ _ _ _ a2 a3 a1 (.acc a4) (hv i e1)
  ·rename_i i n hv0
   cases ei:h i with
   | none=>simp only [ei]at hv
   | some ob=>
   cases ob with
   | row us t=>simp only [ei]at hv
   | map es=>simp only [ei]at hv
   | wP=>simp only [ei]at hv
   | iter=>simp only [ei]at hv
   | loop=>simp only [ei]at hv
   | gD us t n'=>
    simp only [ei]at hv;obtain⟨hn',ht',hul,hb,hv⟩:=hv;subst hn' ht';have e:=ei;obtain⟨b,ws2,olds,sz,a1,a2,a3,a4,a5,a6,a7,a8⟩:=s.gD i us _ _ e;cases r with
    | acc hG=>
     rw [a1]at hG;injection hG with hG;subst hG;have l2:=a5.len;rw [aHZ hx (by omega) hb a4 (by omega) hsz];obtain⟨b1,b2,b3,b4⟩:=s.aMd e a1 a4 hsz hl (by omega) hul a5 hr;exact k _ _ _ _ _ b2 b3 b1 (.acc b4) hv
  ·rename_i i o n cc hv0
   cases ei:h i with
   | none=>simp only [ei]at hv
   | some ob=>
   cases ob with
   | gD us t n'=>simp only [ei]at hv
   | map es=>simp only [ei]at hv
   | wP=>simp only [ei]at hv
   | iter=>simp only [ei]at hv
   | loop=>simp only [ei]at hv
   | row us t=>
    simp only [ei]at hv;obtain⟨hb,aUw,Qx,aN7⟩:=hv;obtain⟨b,ws2,a1,a2,a3,a4,a5⟩:=s.row i us t ei;have l2:=a5.len;cases r with
    | own hZ=>
     rw [a1]at hZ;injection hZ with hZ;subst hZ;show RZ u _=true;rw [hx.len];show NU S size (m+1) u _=true;rw [hx.first _ (by omega)];simp only [bJ];rw [show Cc (n+(m+1)) bytes=true from Mb hb];by_cases hc:n+(m+1)<=cc
     ·rw [show Nat.ble (n+(m+1)) cc=true from nO hc]
      obtain⟨Ay,hv⟩:=Qx hc;have QK:xP kU ws=true:=by rw [nD];exact s.aGq hr h1
      show Gg size ws (some ⟨b,o,none⟩) n cc (n+(m+1)) S K=true;unfold Gg;simp only [show Re none=true from rfl,QK];show bX (o+n*size) (fun at_=>uQ S b at_ ws fun S=>K (.slice (some ⟨b,o,none⟩) (n+(m+1)) cc) S)=true;rw [bJ];show uQ S b (o+n*size) ws _=true;unfold uQ;rw [KW a4];show sW (o+n*size) ws ws2 (fun vs=>sV S b (.cells vs t .exact) fun S=>K (.slice (some ⟨b,o,none⟩) (n+(m+1)) cc) S)=true;have l3:=hr.len;rw [BJ,aO (by omega),gU];obtain⟨s1,s2⟩:=s.setRow ei a1 (a5.bA hr (o+n*size));exact k c _ _ _ _ (.refl c) s2 s1 (.own a1) hv
     ·have:Nat.ble (n+(m+1)) cc=false:=by
       cases hq:Nat.ble (n+(m+1)) cc with
       | false=>rfl
       | true=>exact bC (cJ hq) hc
      rw [this];have hv:=aN7 (by omega);show Ce P el size ws (some ⟨b,o,none⟩) n (n+(m+1)) S K=true;show OH S b o (n*size) (fun old=>SC el old ws (n+(m+1)) none S K)=true;rw [XK a4 (by omega)];unfold SC;rw [nF];simp only [jF];obtain⟨j,e1,e2,e3⟩:=s.fresh;have hr2:=((a5.drop o).take (n*size)).app hr
      have hn2:((us.drop o).take (n*size)++vs).length=(n+(m+1))*size:=by
       rw [kI,mU,IA,hl,KC n,Nat.min_eq_left (by omega)]
      obtain⟨b1,b2,b3,b4⟩:=s.aJs e1 e2 e3 hsz hn2 hr2;exact k _ _ _ _ _ b2 b3 b1 (.acc b4) (hv j e1)
  ·cases hv
theorem aJD{x:V}{w:Value} (r:fN c S C x w){Kv:V->Prop}{K:Value->Bool} (k:∀v w,fN c S C v w->Kv v->K w=true) (hv:nP P x Kv):aLm P w K=true:=by
 unfold nP at hv;split at hv
 ·cases r with | ptr e=>exact k _ _ (.ptr e) hv
 ·cases r with | uB ht hd=>exact k _ _ (.uB ht hd) hv
 ·cases r with | wL e=>exact k _ _ (.wL e) hv
 ·cases r with | func a b e f=>exact k _ _ (.func a b e f) hv
 ·cases r with | iface e=>exact k _ _ (.iface e) hv
 ·split at hv
  ·rename_i s v t w'
   split at hv
   ·rename_i g hg
    cases r with
    | KJ r=>
     cases r with
     | iface r=>
      show(match KE P t s with | some _=>_ | none=>false)=true;rw [hg];exact k _ _ (.KJ (.iface r)) hv
   ·cases hv
  ·cases hv
 ·cases hv
theorem aTy (x y:Int):(x==y)=decide (x=y):=by
 by_cases e:x=y
 ·subst e;simp
 ·rw [bO e];simpa using e
inductive NR:NK->Bool->Value->Prop
 | p0 {a:Addr}:NR .ptr false (.pointer (some a))
 | p1:NR .ptr true (.pointer none)
 | s0 {a:Addr} {n m:Nat}:NR .slice false (.slice (some a) n m)
 | s1 {n m:Nat}:NR .slice true (.slice none n m)
 | m0 {b:Nat}:NR .map false (.map (some b))
 | m1:NR .map true (.map none)
 | f0 {f:Fn} {a b:Array Value}:NR .func false (.func f a b)
 | f1:NR .func true .nilFunc
 | i0 {t:TypeId} {v:Value}:NR .iface false (.iface t v)
 | i1:NR .iface true .nilIface
theorem Pq (hG:∀i n w,c.G i n=some w->∃b,w= .slice (some ⟨b,0,some 0⟩) n n){a:V}{u:Value} (r:fN c S C a u){kk:NK}{x:Bool} (hk:Yk a=some (kk,x)):NR kk x u:=by
 cases r with
 | @list O cs n w ht hd=>
  cases cs with
  | nil=>cases hk
  | cons d cs=>
   injection hk with hk;injection hk with h1 h2;subst h1 h2;cases hd with
   | row=>exact .s0
 | acc e=>obtain⟨b,rfl⟩:=hG _ _ _ e;injection hk with hk;injection hk with h1 h2;subst h1 h2;exact .s0
 | _=>first
  | (cases hk;done)
  | (injection hk with hk;injection hk with h1 h2;subst h1 h2;constructor)
theorem aND{t:TypeId}{kk:NK}{x y:Bool}{u w:Value} (hx:NR kk x u) (hy:NR kk y w) (ho:x=true\/y=true) (hi:x=true->y=true->kk≠ .iface) (ht:Dx P t=some kk) (k:Bool->Bool):pN P t u w k=k (x&&y):=by
 unfold Dx at ht;cases hx<;>cases hy<;>first | (rcases ho with ho | ho<;>cases ho;done) | (exact bC rfl (hi rfl rfl)) | (unfold pN;split at ht<;>first | (rename_i hu;simp only [hu];rfl) | (cases ht;done))
theorem aBE{O:Tag}{n:Nat}{u:Value} (r:fN c S C (.list O [] n) u):∃x,NR .slice x u:=by
 cases r with
 | list ht hd=>
  cases hd with
  | nil=>exact⟨true,.s1⟩
  | emp=>exact⟨false,.s0⟩
  | row=>exact⟨false,.s0⟩
theorem aDm{op:BinOp}{t:TypeId}{a b:V}{u w:Value} (r:fN c S C a u) (q:fN c S C b w){Kv:V->Prop}{K:Value->Bool} (k:∀v w,fN c S C v w->Kv v->K w=true) (hv:aDa P op t a b Kv):Ap P op t u w K=true:=by
 unfold aDa at hv;split at hv
 ·split at hv
  ·obtain⟨ht,hv⟩:=hv
   obtain⟨x,hx⟩:=aBE r;cases q;have hy:NR .slice true (.slice none 0 0):= .s1;have e:=aND hx hy (.inr rfl) (fun _ _ h=>by cases h) ht;cases op<;>first | (cases hv;done) | skip
   ·have:Ap P .eql t u (.slice none 0 0) K=pN P t u (.slice none 0 0) fun e=>oN e K:=by cases hx<;>rfl
    rw [this,e,rO];cases x with
    | true=>exact k _ _ .bool hv.1
    | false=>exact k _ _ .bool hv.2
   ·have:Ap P .neq t u (.slice none 0 0) K=pN P t u (.slice none 0 0) fun e=>oN (!e) K:=by cases hx<;>rfl
    rw [this,e,rO];cases x with
    | true=>exact k _ _ .bool hv.2
    | false=>exact k _ _ .bool hv.1
  ·cases hv
 ·cases hv
theorem aDn{op:BinOp}{t:TypeId}{a b:V}{u w:Value} (hG:∀i n w,c.G i n=some w->∃b,w= .slice (some ⟨b,0,some 0⟩) n n) (r:fN c S C a u) (q:fN c S C b w){Kv:V->Prop}{K:Value->Bool} (k:∀v w,fN c S C v w->Kv v->K w=true) (hv:aDb P op t a b Kv):Ap P op t u w K=true:=by
 unfold aDb at hv;split at hv
 ·rename_i ka x ha
  split at hv
  ·rename_i kb y hb
   obtain⟨rfl,ht,hxy,hi,hv⟩:=hv;have hx:=Pq hG r ha;have hy:=Pq hG q hb;have e:=aND hx hy hxy hi ht;cases op<;>first | (cases hv;done) | skip
   ·have:Ap P .eql t u w K=pN P t u w fun e=>oN e K:=by cases hx<;>cases hy<;>rfl
    rw [this,e,rO];exact k _ _ .bool hv
   ·have:Ap P .neq t u w K=pN P t u w fun e=>oN (!e) K:=by cases hx<;>cases hy<;>rfl
    rw [this,e,rO];exact k _ _ .bool hv
  ·cases hv
 ·exact aDm r q k hv
theorem aJE{op:BinOp}{t:TypeId}{a b:V}{u w:Value} (hG:∀i n w,c.G i n=some w->∃b,w= .slice (some ⟨b,0,some 0⟩) n n) (r:fN c S C a u) (q:fN c S C b w){Kv:V->Prop}{K:Value->Bool} (k:∀v w,fN c S C v w->Kv v->K w=true) (hv:aJ P op t a b Kv):aHN P op t u w K=true:=by
 rw [RA];unfold aJ at hv;split at hv
 ·rename_i j x
  split at hv
  ·rename_i k' y
   cases r;cases q;cases hs:yT op with
   | true=>
    rw [hs]at hv;obtain⟨hy,hv⟩:=hv;have hlt:Zv y 0=false:=by rw [UV];exact bO (by omega)
    cases op<;>first | cases hs | skip
    ·show An .shl j x y K=true
     unfold An;rw [hlt];show NT j (x*2 ^ (min y.toNat j.bits)) K=true;unfold NT;rw [nZ];exact k _ _ .int hv
    ·show An .shr j x y K=true
     unfold An;rw [hlt];show DC (x.fdiv (2 ^ (min y.toNat j.bits))) (fun n=>K (.int j n))=true;rw [nZ];exact k _ _ .int hv
   | false=>
    rw [hs]at hv;obtain⟨rfl,hv⟩:=hv
    have hg:Ap P op t (.int j x) (.int j y) K=QG op j x y K:=by
     rw [<-RA];exact aOr _ _ _ _ _ _ (by rintro rfl;cases hs) (by rintro rfl;cases hs)
    rw [hg]
    have hint:∀n,Kv (.int j (sM j n))->NT j n K=true:=fun n hv=>by
     unfold NT;rw [nZ];exact k _ _ .int hv
    have h0:∀y:Int,y≠0->eqI y 0=false:=fun y hy=>by rw [QM];simpa using hy
    cases op<;>first
     | exact hint _ hv
     | (obtain⟨hy,hv⟩:=hv;show(match eqI y 0 with | true=>false | false=>_)=true;rw [h0 y hy];first | exact hint _ hv | (show DC _ _=true;rw [nZ];exact k _ _ .int hv))
     | (show DC (j.wrap _) (fun n=>K (.int j n))=true;rw [nZ];exact k _ _ .int hv)
     | (show oN _ K=true;rw [rO];simp only [QM,UV,aTy];first | exact k _ _ .bool hv | (have e1:(!decide (y<x))=decide (x<=y):=(by by_cases h:y<x;rw [bI h,bO (show ¬x<=y by omega)];rfl;rw [bO h,bI (show x<=y by omega)];rfl);rw [e1];exact k _ _ .bool hv) | (have e1:(!decide (x<y))=decide (y<=x):=(by by_cases h:x<y;rw [bI h,bO (show ¬y<=x by omega)];rfl;rw [bO h,bI (show y<=x by omega)];rfl);rw [e1];exact k _ _ .bool hv))
     | cases hv
     | cases hs
  ·cases hv
 ·rename_i x
  split at hv
  ·rename_i y
   cases r;cases q
   have e8:Mc x y=decide (x=y):=by
    rw [QN];by_cases e:x=y
    ·subst e;simp
    ·rw [bO e];simpa using e
   cases op<;>first
    | (show oN _ K=true;rw [rO];show K (.bool _)=true;first | (rw [e8];exact k _ _ .bool hv) | (rw [aD6];exact k _ _ .bool hv))
    | (exact bC hv id)
    | (obtain⟨hl,hv⟩:=hv
       show(KD x fun n=>KD y fun m=>match Nat.blt (n+m) 9223372036854775808 with | true=>FE x y fun l=>K (.string ⟨⟨l⟩⟩) | false=>false)=true;rw [nY,nY,show Nat.blt (x.length+y.length) 9223372036854775808=true from nO hl];exact(nF x y _).trans (k _ _ .str hv))
  ·cases hv
 ·rename_i x
  split at hv
  ·rename_i y
   cases r;cases q;obtain⟨ht,hv⟩:=hv;unfold aET at ht;split at ht
   ·rename_i hu
    have hb:(x==y)=decide (x=y):=by cases x<;>cases y<;>rfl
    cases op<;>first | cases hv | skip
    all_goals
     show pN P t (.bool x) (.bool y) _=true;unfold pN;simp only [hu,pJ,rO,hb];exact k _ _ .bool hv
   ·cases ht
  ·cases hv
 ·exact aDn hG r q k hv
theorem aMh{op:UnOp}{a:V}{u:Value} (r:fN c S C a u){Kv:V->Prop}{K:Value->Bool} (k:∀v w,fN c S C v w->Kv v->K w=true) (hv:SP op a Kv):unK op u K=true:=by
 unfold SP at hv;split at hv
 ·split at hv
  ·cases r;rw [aLq];exact k _ _ .bool hv
  ·cases hv
 ·split at hv
  ·cases r
   show NT _ _ K=true;unfold NT;rw [nZ];exact k _ _ .int hv
  ·cases hv
 ·split at hv
  ·cases r
   unfold unK;simp only;rw [nZ];exact k _ _ .int hv
  ·cases hv
 ·cases hv
theorem aBF{P:Program}{big:Bool}{ts:List TypeId}{a b:V}{w u:Value} (r:fN c S C a w) (q:fN c S C b u){Kv:V->Prop}{K:VK} (k:∀v w,fN c S C v w->Kv v->K w S=true) (hv:Bg big a b Kv):oO P (match big with | true=> .max | false=> .min) ts [w,u] S K=true:=by
 cases r<;>try (cases hv;done)
 cases q<;>try (cases hv;done)
 rename_i j x j' y;have hw:=k _ _ .int hv;cases big with
 | true=>
  show YQ true [.int j' y] j x (fun v=>K v S)=true;show gE (Zv x y) (K (.int j y) S) (K (.int j x) S)=true;rw [UV];simp only [Int.max_def]at hw;by_cases h:x<y
  ·rw [aO (by omega)]at hw;simp only [bI h];exact hw
  ·by_cases h2:x<=y
   ·rw [aO h2]at hw
    have:x=y:=by omega
    subst this;simp only [bO h];exact hw
   ·rw [aG h2]at hw
    simp only [bO h];exact hw
 | false=>
  show YQ false [.int j' y] j x (fun v=>K v S)=true;show gE (Zv y x) (K (.int j y) S) (K (.int j x) S)=true;rw [UV];simp only [Int.min_def]at hw;by_cases h:y<x
  ·rw [aG (by omega)]at hw;simp only [bI h];exact hw
  ·rw [aO (by omega)]at hw;simp only [bO h];exact hw
inductive OR' (c:Cx) (S:St) (C:Nat->Prop):Option V->Option Value->Prop
 | none:OR' c S C none none
 | some {v:V} {w:Value} (h:fN c S C v w):OR' c S C (some v) (some w)
theorem Pr{d:Nat}{o:Option V}{o':Option Value} (r:OR' c S C o o'){k:Nat->Prop}{K:Nat->Bool} (hk:∀n,k n->K n=true) (hv:Hd d o k):aFp d o' K=true:=by
 cases r with
 | none=>exact hk _ hv
 | some r=>
  cases r<;>try (cases hv;done)
  rename_i j z;cases z with
  | ofNat n=>exact hk n hv
  | negSucc n=>cases hv
theorem CM{len cap:Nat}{lo hi mx:Option V}{Ld Av Bz:Option Value} (r1:OR' c S C lo Ld) (r2:OR' c S C hi Av) (r3:OR' c S C mx Bz){k:Nat->Nat->Nat->Prop}{K:Nat->Nat->Nat->Bool} (hk:∀l h m,l<=h->h<=m->m<=cap->k l h m->K l h m=true) (hv:LH len cap lo hi mx k):QH len cap Ld Av Bz K=true:=by
 refine Pr r3 (fun m hv=>Pr r2 (fun h hv=>Pr r1 (fun l hv=>?_) hv) hv) hv;obtain⟨h1,h2,h3,hv⟩:=hv;simp only [nO h1,nO h2,nO h3];exact hk l h m h1 h2 h3 hv
theorem Hq{d:Nat}{o:Option V}{k k':Nat->Prop} (hk:∀n,k n->k' n) (h:Hd d o k):Hd d o k':=by
 unfold Hd at*;split at h
 ·exact hk _ h
 ·exact hk _ h
 ·cases h
theorem aJF{n c:Nat} (hc:n<=c){lo hi:Option V}{v:V}{k:Nat->Nat->Nat->Prop} (h:LH n n lo hi (some v) k):LH n c lo hi (some v) fun l h m=>m<=n/\k l h m:=by
 unfold LH at*
 have h1:Hd c (some v) fun m=>Hd n hi fun h=>Hd 0 lo fun l=>l<=h/\h<=m/\m<=n/\k l h m:=by
  unfold Hd at h ⊢;split at h
  ·rename_i e;cases e
  ·exact h
  ·cases h
 exact Hq (fun m=>Hq fun h=>Hq fun l ⟨a,b,d,e⟩=>⟨a,b,by omega,d,e⟩) h1
theorem aJG (s:VS P B Sb c h S){t el:TypeId}{size:Nat} (he:isSlice P t=some el) (hs:cM P el=some size){x:V}{w:Value} (r:fN c S C x w){lo hi mx:Option V}{Ld Av Bz:Option Value} (r1:OR' c S C lo Ld) (r2:OR' c S C hi Av) (r3:OR' c S C mx Bz){k:V->Prop}{K:Value->Bool} (hk:∀v w,fN c S C v w->k v->K w=true) (hv:LG el size x lo hi mx h k):uR P t w Ld Av Bz S K=true:=by
 have gD:∀{i n b o q cc:Nat},c.G i n=some (.slice (some ⟨b,0,some 0⟩) n n)->(match h i with
  | some (.gD _ t n')=>n'=n/\t=el/\LH q cc lo hi none fun l h m=>(l<m->k (.HW i n (o+l*size) (h-l) (m-l)))/\(m=l->k (.emp i n))
  | _=>False)->uR P t (.slice (some ⟨b,o,some 0⟩) q cc) Ld Av none S K=true:=by
  intro i n b o q cc e hq;split at hq
  ·rename_i vs t' n' ei
   obtain⟨rfl,rfl,hq⟩:=hq;obtain⟨b',us,olds,sz,a1,a2,a3,a4,a5,a6,a7⟩:=s.gD i vs t' n' ei;rw [e]at a1;injection a1 with a1;injection a1 with a1;injection a1 with a1;injection a1 with a1;subst a1;unfold uR;simp only [he,hs];refine CM r1 r2 .none (fun l h m h1 h2 h3 hz=>?_) hq;obtain⟨hz,hz0⟩:=hz;simp only [bJ];cases hw:Nat.beq m l with
   | true=>exact hk _ _ (.aJq e) (hz0 (dH hw))
   | false=>
    have h4:=UC hw;simp only;rw [KW a4];simp only [hs];rw [show Nat.beq size size=true from Ag size];exact hk _ _ (.HW e) (hz (by omega))
  ·cases hq
 cases r<;>try (cases hv;done)
 ·rename_i O cs n ht hd
  cases r3 with
  | none=>cases hv
  | some r3'=>
   have hv:LH n n lo hi (some _) fun l h m=>l<m/\h*size<=cs.length/\k (.list (.cut O (l*size) (h-l) (m-l)) ((cs.drop (l*size)).take ((h-l)*size)) (h-l)):=hv;cases hd with
   | nil=>
    unfold uR;simp only [he,hs];exact CM r1 r2 (.some r3') (fun l h m h1 h2 h3 hq=>bC hq.1 (by omega)) hv
   | emp=>
    unfold uR;simp only [he,hs];exact CM r1 r2 (.some r3') (fun l h m h1 h2 h3 hq=>bC hq.1 (by omega)) hv
   | @row b o _ cc sp vs e ck _ BA hb hC ho hl hn hr=>
    unfold uR;simp only [he,hs];refine CM r1 r2 (.some r3') (fun l h m h1 h2 h3 hq=>?_) (aJF hn hv);obtain⟨hmn,hlm,wK,hq⟩:=hq;have hle:l*size<=cs.length:=zR (QD _ h1) wK;simp only [bJ]
    have oM:Nat.beq m l=false:=by
     cases hw:Nat.beq m l with
     | false=>rfl
     | true=>have:=dH hw;omega
    rw [oM]
    have hw:K (.slice (some ⟨b,o+l*size,none⟩) (h-l) (m-l))=true:=by
     refine hk _ _ (.list (.cut ht) (.row rfl hb hC ho ?_ (by omega) fun j d v x1 x2=>?_)) hq
     ·rw [mU,IA]
      omega
     ·rw [sC]at x1
      split at x1
      ·rw [qY]at x1
       exact hr (l*size+j) d v x1 (by rw [<-uP];exact x2)
      ·cases x1
    match sp,BA with
    | none,_=>exact hw
    | some 0,_=>exact hw
 ·unfold uR
  simp only [he,hs];refine CM r1 r2 r3 (fun l h m h1 h2 h3 hv=>?_) hv;simp only [bJ];have:h-l=0/\m-l=0:=by omega
  rw [this.1,this.2];exact hk _ _ .nil hv
 ·rename_i i n e
  obtain⟨b,rfl⟩:=s.Gs _ _ _ e;cases r3 with
  | none=>exact gD e hv
  | some _=>cases hv
 ·rename_i i n o q cc b e
  cases r3 with
  | none=>exact gD e hv
  | some _=>cases hv
 ·rename_i i o n m b e
  unfold uR;simp only [he,hs];refine CM r1 r2 r3 (fun l h m h1 h2 h3 hv=>?_) hv;simp only [bJ];have hw:K (.slice (some ⟨b,if m=l then o else o+l*size,none⟩) (h-l) (m-l))=true:=hk _ _ (.own e) hv;cases hq:Nat.beq m l with
  | true=>rw [aO (dH hq)]at hw;exact hw
  | false=>rw [aG (UC hq)]at hw;exact hw
theorem aDo (s:VS P B Sb c h S){t el:TypeId}{zero:List Value}{m:Nat} (he:isSlice P t=some el) (hs:cM P el=some (m+1)) (hz:wY P el=some zero) (hl:Nat.beq zero.length (m+1)=true) (hf:xP bY zero=true){x:V}{w:Value} (r:fN c S (dO B c h) x w){Kv:Hp->Prop}{K:VK} (k:∀h' S',EP (dO B c h) S S' (dO B c h')->VS P B Sb c h' S'->Kv h'->K (.tuple #[]) S'=true) (hv:Bj zero x h Kv):oO P .clear [t] [w] S K=true:=by
 have fin:∀{b o q cc:Nat} {sp:Option Nat},Re sp=true->uQ S b o (List.replicate (q+1) zero).flatten (fun S=>K (.tuple #[]) S)=true->oO P .clear [t] [.slice (some ⟨b,o,sp⟩) (q+1) cc] S K=true:=by
  intro b o q cc sp BA hw
  show(match isSlice P t with
   | some elem=>match cM P elem,wY P elem with
    | some size,some zero=>match(some (⟨b,o,sp⟩:Addr)),q+1 with
     | none,_=>K (.tuple #[]) S
     | some _,0=>K (.tuple #[]) S
     | some ⟨i,o,sp⟩,n+1=>match Re sp,Nat.beq zero.length size,xP bY zero,size with
      | true,true,true,_+1=>aAb zero (n+1) fun cs=>uQ S i o cs fun S=>K (.tuple #[]) S
      | _,_,_,_=>false
    | _,_=>false
   | none=>false)=true
  simp only [he,hs,hz,BA,hl,hf];rw [GK];exact hw
 have aJH:∀{a:Addr} {cc:Nat},K (.tuple #[]) S=true->oO P .clear [t] [.slice (some a) 0 cc] S K=true:=by
  intro a cc hw
  show(match isSlice P t with
   | some elem=>match cM P elem,wY P elem with
    | some size,some zero=>K (.tuple #[]) S
    | _,_=>false
   | none=>false)=true
  simp only [he,hs,hz];exact hw
 have zs:∀{q:Nat} {z:List V},LB zero=some z->lT c S (dO B c h) (List.replicate (q+1) z).flatten (List.replicate (q+1) zero).flatten:=fun hz=>(XS hz).flatten _
 have Yv:∀{p:List V->Prop},rR zero p->∃z,LB zero=some z/\p z:=by
  intro p hp;unfold rR at hp;split at hp
  ·rename_i z e;exact⟨z,e,hp⟩
  ·cases hp
 have here:=fun(hv:Kv h)=>k h S (.refl _ S) s hv;unfold Bj at hv;split at hv
 ·cases r
  show(match isSlice P t with
   | some elem=>match cM P elem,wY P elem with
    | some size,some zero=>K (.tuple #[]) S
    | _,_=>false
   | none=>false)=true
  simp only [he,hs,hz];exact here hv
 ·cases r with
  | own e=>
   split at hv
   ·exact aJH (here hv)
   ·obtain⟨z,Gi,hq⟩:=Yv hv
    split at hq
    ·rename_i vs t' e1
     exact fin rfl (Bm s e1 e (zs Gi) hq.1 k hq.2)
    ·cases hq
 ·cases r with
  | acc e=>
   obtain⟨b,rfl⟩:=s.Gs _ _ _ e;split at hv
   ·exact aJH (here hv)
   ·obtain⟨z,Gi,hq⟩:=Yv hv
    split at hq
    ·rename_i vs t' m' e1
     obtain⟨rfl,hq⟩:=hq;exact fin rfl (RB s e1 e (zs Gi) (by omega) k hq.2)
    ·cases hq
 ·cases r with
  | HW e=>
   split at hv
   ·exact aJH (here hv)
   ·obtain⟨z,Gi,hq⟩:=Yv hv
    split at hq
    ·rename_i vs t' m' e1
     obtain⟨rfl,hq⟩:=hq;exact fin rfl (RB s e1 e (zs Gi) hq.1 k hq.2)
    ·cases hq
 ·cases hv
theorem aGt (s:VS P B Sb c h S){ts:List TypeId}{dT el:TypeId}{m:Nat} (he:isSlice P dT=some el) (hs:cM P el=some (m+1)){y x:V}{w u:Value} (r:fN c S (dO B c h) y w) (q:fN c S (dO B c h) x u){Kv:KV}{K:VK} (k:KR P B Sb c h S Kv K) (hv:Up (m+1) y x h Kv):Td P (dT::ts) w u S K=true:=by
 unfold Up at hv;obtain⟨n,vs,ws,hv,hr,hl,hlen,aAL⟩:=aBD s (Nat.succ_pos m) q hv;cases y with
 | own i o d cc=>
  cases r with
  | @own _ _ _ _ b hZ=>
  obtain⟨hn,hv⟩:=hv;unfold Td;simp only [he,hs];have aFs:Nat.min n d=n:=Nat.min_eq_left hn;rw [hlen,bJ,aFs];cases n with
  | zero=>exact k.here s .int hv
  | succ n=>
   obtain⟨h1,hv⟩:=hv;have hS:=aAL h1;show NU S (m+1) (n+1) u _=true;rw [hS.first _ (by omega)];have ho:xP kU ws=true:=by rw [nD];exact List.all_eq_true.2 hS.one
   simp only [show Re none=true from rfl,ho];split at hv
   ·rename_i us t e
    refine Bm s e hZ hr hv.1 (fun h' S' f s' ON=>?_) hv.2;exact k c h' S' _ _ (.refl c) f s' .int ON
   ·cases hv
 | _=>cases hv
theorem aJI{t el:TypeId}{len size:Nat} (he:P.underlying t=some (.array len el)) (hs:cM P el=some size){x:V}{w:Value} (r:fN c S C x w){lo hi mx:Option V}{Ld Av Bz:Option Value} (r1:OR' c S C lo Ld) (r2:OR' c S C hi Av) (r3:OR' c S C mx Bz){k:V->Prop}{K:Value->Bool} (hk:∀v w,fN c S C v w->k v->K w=true) (hv:aRz len size x lo hi mx k):uR P t w Ld Av Bz S K=true:=by
 cases r<;>try (cases hv;done)
 rename_i i o b e;unfold uR;simp only [he,hs];refine CM r1 r2 r3 (fun l h m h1 h2 h3 hv=>?_) hv;simp only [bJ];have hw:K (.slice (some ⟨b,if m=l then o else o+l*size,none⟩) (h-l) (m-l))=true:=hk _ _ (.own e) hv;cases hq:Nat.beq m l with
 | true=>rw [aO (dH hq)]at hw;exact hw
 | false=>rw [aG (UC hq)]at hw;exact hw
theorem aJJ{t:TypeId} (he:P.underlying t=some .string){x:V}{w:Value} (r:fN c S C x w){lo hi:Option V}{Ld Av:Option Value} (r1:OR' c S C lo Ld) (r2:OR' c S C hi Av){k:V->Prop}{K:Value->Bool} (hk:∀v w,fN c S C v w->k v->K w=true) (hv:aRy x lo hi k):uR P t w Ld Av none S K=true:=by
 cases r<;>try (cases hv;done)
 rename_i s;unfold uR;simp only [he];rw [nY];refine CM r1 r2 .none (fun l h m h1 h2 h3 hv=>?_) hv;rw [GZ,aO (by omega),DJ,aO (by simp;omega)];exact hk _ _ .str hv
theorem aMi (s:VS P B Sb c h S){t el:TypeId}{info:TypeInfo}{zero:List Value}{n:Nat} (he:isSlice P t=some el) (hi:P.info? el=some info) (hz:wY P el=some zero) (hl:Nat.beq zero.length info.size=true) (hn:info.size=n+1) (hf:xP bY zero=true){x y:V}{w u:Value} (r:fN c S C x w) (q:fN c S C y u){Kv:KV}{K:VK} (k:KR P B Sb c h S Kv K) (hv:vMk el info.bytes zero x y h Kv):xR P t w u S K=true:=by
 unfold vMk at hv;cases r<;>try (cases hv;done)
 rename_i j z;cases z with
 | negSucc n=>cases hv
 | ofNat l=>
 cases q<;>try (cases hv;done)
 rename_i j' z;cases z with
 | negSucc n=>cases hv
 | ofNat cc=>
  obtain⟨h1,h2,h3,hv⟩:=hv;unfold rR at hv;split at hv
  ·rename_i zs e
   rw [hn]at hl;unfold xR;simp only [he,hi,hz,nO h1,nO h2,nO h3,nO (show cc<=1099511627776 by omega),hl,hn,hf];rw [GK];obtain⟨c',h',i,a1,a2,a3,a4,a5⟩:=Eu s ((XS e).flatten cc) hv;rw [jF];exact k c' h' _ _ _ a1 a2 a3 (.own a4) a5
  ·cases hv
end
section
variable{P:Program}{B:Nat->Prop}{Sb:St}{c c' d:Cx}{h h':Hp}{S S':St}{C C':Nat->Prop}
theorem aBN (k:IntKind):FF k k=true:=by cases k<;>rfl
theorem aJT{t:TypeId}{ct:CT} (h:Hl P t=some ct):sE P t=true:=by
 unfold Hl at h;unfold sE;split at h<;>simp_all
theorem aNF{t:TypeId}{ct:CT} (hc:Hl P t=some ct){a b:V}{a' b':Value} (ha:fN c S C a a') (hb:fN c S C b b') (oa:aGh ct a) (ob:aGh ct b) (k:Bool->Bool):∃e:Bool,(e=true↔a=b)/\wZ P t a' b' k=k e:=by
 unfold Hl at hc;split at hc
 ·rename_i ik hu
  injection hc with hc;subst hc;cases ha<;>try (cases oa;done)
  rename_i j x;cases hb<;>try (cases ob;done)
  rename_i j' y;have oa:j=ik:=oa;have ob:j'=ik:=ob;subst oa ob;refine⟨eqI x y,?_,?_⟩
  ·rw [QM]
   constructor
   ·intro h;rw [beq_iff_eq.1 h]
   ·intro h;injection h with _ h;subst h;simp
  ·unfold wZ
   simp only [hu,aBN,pJ]
 ·rename_i hu
  injection hc with hc;subst hc;cases ha<;>try (cases oa;done)
  rename_i x;cases hb<;>try (cases ob;done)
  rename_i y;refine⟨Mc x y,?_,?_⟩
  ·rw [QN]
   constructor
   ·intro h;rw [beq_iff_eq.1 h]
   ·intro h;injection h with h;subst h;simp
  ·unfold wZ
   simp only [hu,pJ]
 ·rename_i hu
  injection hc with hc;subst hc;cases ha<;>try (cases oa;done)
  rename_i x;cases hb<;>try (cases ob;done)
  rename_i y;refine⟨x==y,?_,?_⟩
  ·constructor
   ·intro h;rw [beq_iff_eq.1 h]
   ·intro h;injection h with h;subst h;simp
  ·unfold wZ
   simp only [hu,pJ]
 ·cases hc
theorem aJU{k:Bool->Bool}:∀{fs:List Field} {l:List CT} {a b:List V} {a' b':List Value},NB P fs=some l->lT c S C a a'->lT c S C b b'->Jb l a->Jb l b->∃e:Bool,(e=true↔a=b)/\OJ P fs a' b' k=k e:=by
 intro fs;induction fs with
 | nil=>
  intro l a b a' b' hl ha hb oa ob;simp [NB]at hl;subst hl;cases a with
  | cons=>cases oa
  | nil=>cases b with
   | cons=>cases ob
   | nil=>exact⟨true,by simp,rfl⟩
 | cons f fs ih=>
  intro l a b a' b' hl ha hb oa ob;unfold NB at hl;split at hl
  ·rename_i ct hct
   split at hl
   ·rename_i l' Qw
    injection hl with hl;subst hl;cases a with
    | nil=>cases oa
    | cons x a=>cases b with
     | nil=>cases ob
     | cons y b=>
      obtain⟨x',a'',rfl,rx,ra⟩:=ha.cons_inv;obtain⟨y',b'',rfl,ry,rb⟩:=hb.cons_inv;obtain⟨e2,g3,g4⟩:=ih Qw ra rb oa.2 ob.2;obtain⟨e1,g1,g2⟩:=aNF hct rx ry oa.1 ob.1 (fun e=>match e with | true=>OJ P fs a'' b'' k | false=>k false);refine⟨e1&&e2,?_,?_⟩
      ·rw [dZ,g1,g3];simp
      ·show wZ P f.type x' y' (fun e=>match e with | true=>OJ P fs a'' b'' k | false=>k false)=_
       rw [g2];cases e1 with
       | true=>exact g4
       | false=>rfl
   ·cases hl
  ·cases hl
theorem aRH{t:TypeId}{sh:KSh} (hs:Pi P t=some sh){a b:V}{a' b':Value} (ha:fN c S C a a') (hb:fN c S C b b') (oa:RK sh a) (ob:RK sh b) (k:Bool->Bool):∃e:Bool,(e=true↔a=b)/\IC P t a' b' k=k e:=by
 unfold Pi at hs;split at hs
 ·rename_i ct hct
  injection hs with hs;subst hs;obtain⟨e,g1,g2⟩:=aNF hct ha hb oa ob k;refine⟨e,g1,?_⟩;rw [<-g2];unfold IC;split
  ·rename_i xs ys
   cases ha<;>cases ct<;>cases oa
  ·rfl
 ·split at hs
  ·rename_i fs hfs
   split at hs
   ·rename_i l hl
    injection hs with hs;subst hs;cases ha<;>try (cases oa;done)
    cases hb<;>try (cases ob;done)
    rename_i xs xs' la rxa ys ys' lb ryb;obtain⟨e,g1,g2⟩:=aJU (k:=k) hl ⟨la,rxa⟩ ⟨lb,ryb⟩ oa ob;refine⟨e,?_,?_⟩
    ·rw [g1];simp
    ·show pN P t (.agg ⟨xs'⟩) (.agg ⟨ys'⟩) k=_
     unfold pN;simp only [hfs];exact g2
   ·cases hs
  ·cases hs
theorem aE2{ct:CT}{v:V}{w:Value} (r:fN c S C v w) (o:aGh ct v):bY w=true:=by
 cases r<;>first | rfl | (cases ct<;>cases o)
theorem aJV:∀{l:List CT} {a:List V} {a':List Value},lT c S C a a'->Jb l a->a'.all bY=true/\a'.length=l.length:=by
 intro l;induction l with
 | nil=>intro a a' r o;cases a with | cons=>cases o | nil=>rw [r.rQ];exact⟨rfl,rfl⟩
 | cons ct l ih=>
  intro a a' r o;cases a with
  | nil=>cases o
  | cons x a=>
   obtain⟨x',a'',rfl,rx,ra⟩:=r.cons_inv;obtain⟨h1,h2⟩:=ih ra o.2;exact⟨by simp [aE2 rx o.1,h1],by simp [h2]⟩
theorem aBO:∀{fs:List Field} {l:List CT},NB P fs=some l->fs.length=l.length:=by
 intro fs;induction fs with
 | nil=>intro l h;simp [NB]at h;subst h;rfl
 | cons f fs ih=>
  intro l h;unfold NB at h;split at h
  ·split at h
   ·rename_i hl;injection h with h;subst h;simp [ih hl]
   ·cases h
  ·cases h
theorem aBP{t:TypeId}{sh:KSh} (hs:Pi P t=some sh){a:V}{a':Value} (ha:fN c S C a a') (oa:RK sh a):RY P t a'=true:=by
 unfold Pi at hs;split at hs
 ·rename_i ct hct
  injection hs with hs;subst hs;have hf:=aE2 ha oa;have h1:kO a'=true:=by cases a'<;>first | exact hf | (simp [bY]at hf)
  unfold RY;simp only [h1,aJT hct]
 ·rename_i hn
  split at hs
  ·rename_i fs hfs
   split at hs
   ·rename_i l hl
    injection hs with hs;subst hs;cases ha<;>try (cases oa;done)
    rename_i xs xs' la rxa;obtain⟨h1,h2⟩:=aJV ⟨la,rxa⟩ oa;have h1:kO (.agg ⟨xs'⟩)=true:=h1;unfold RY;have h3:Nat.ble fs.length xs'.length=true:=nO (by rw [aBO hl,h2];exact bQ _);simp only [h1];cases sE P t with
    | true=>rfl
    | false=>simp only [hfs,h3]
   ·cases hs
  ·cases hs
theorem bytes_beq (l:List UInt8):((⟨⟨l⟩⟩:ByteArray)==⟨⟨l⟩⟩)=true:=by
 show ByteArray.beq ⟨⟨l⟩⟩ ⟨⟨l⟩⟩=true;unfold ByteArray.beq;simp
theorem aE3{n:Nat}{ct:CT}{v:V}{w:Value} (r:fN c S C v w) (o:aGh ct v):Instr.sameBits n w w=true:=by
 cases r<;>first | (cases ct<;>cases o;done) | (cases n<;>first | exact bytes_beq _ | (simp [Instr.sameBits];done))
theorem aJW{n:Nat}:∀{l:List CT} {a:List V} {a':List Value},lT c S C a a'->Jb l a->((a'.zip a').all fun(x,y)=>Instr.sameBits n x y)=true:=by
 intro l;induction l with
 | nil=>intro a a' r o;cases a with | cons=>cases o | nil=>rw [r.rQ];rfl
 | cons ct l ih=>
  intro a a' r o;cases a with
  | nil=>cases o
  | cons x a=>
   obtain⟨x',a'',rfl,rx,ra⟩:=r.cons_inv;simp [aE3 rx o.1];have:=ih ra o.2;simpa using this
theorem aMl{sh:KSh}{a:V}{a':Value} (ha:fN c S C a a') (oa:RK sh a) (n:Nat):Instr.sameBits (n+1) a' a'=true:=by
 cases sh with
 | one ct=>exact aE3 ha oa
 | many l=>
  cases ha<;>try (cases oa;done)
  rename_i xs xs' la rxa;have:=aJW (n:=n) (⟨la,rxa⟩:lT c S C xs xs') oa;simp only [Instr.sameBits];simpa using this
def EsR (c:Cx) (S:St) (C:Nat->Prop) (es:List (V×V)) (jQ:List MapEntry):Prop:=es.length=jQ.length/\∀(k:Nat) (x:V×V) (y:MapEntry),es[k]? =some x->jQ[k]? =some y->fN c S C x.1 y.key/\fN c S C x.2 y.val
theorem EsR.tail{x:V×V}{y:MapEntry}{es:List (V×V)}{jQ:List MapEntry} (r:EsR c S C (x::es) (y::jQ)):EsR c S C es jQ:=⟨by simpa using r.1,fun k a b p q=>r.2 (k+1) a b (by simpa using p) (by simpa using q)⟩
theorem aBQ{t:TypeId}{sh:KSh} (hs:Pi P t=some sh){a:V}{a':Value} (ha:fN c S C a a') (oa:RK sh a) (k:Option (Nat×MapEntry)->Bool):∀{es:List (V×V)} {jQ:List MapEntry} (i:Nat),EsR c S C es jQ->(∀e∈es,RK sh e.1)->
 (WO es a=none/\(∀x,OB es a x=es++[(a,x)])/\gX (β:=Nat->Bool) (fun _=>k none) (fun e _ ih i=>IC P t a' e.key fun b=>match b with | true=>k (some (i,e)) | false=>bX (Nat.succ i) ih) jQ i=k none)\/
 ∃j v e',WO es a=some v/\jQ[j]? =some e'/\e'.key=a'/\fN c S C v e'.val/\(∀x,OB es a x=es.set j (a,x))/\gX (β:=Nat->Bool) (fun _=>k none) (fun e _ ih i=>IC P t a' e.key fun b=>match b with | true=>k (some (i,e)) | false=>bX (Nat.succ i) ih) jQ i=k (some (i+j,e')):=by
 intro es;induction es with
 | nil=>
  intro jQ i r ho;have:jQ=[]:=sB (by simpa using r.1.symm);subst this;exact .inl ⟨rfl,fun x=>rfl,rfl⟩
 | cons x es ih=>
  intro jQ i r ho;cases jQ with
  | nil=>have:=r.1;simp at this
  | cons y jQ=>
   have r0:=r.2 0 x y rfl rfl;rw [bV];obtain⟨e,g1,g2⟩:=aRH hs ha r0.1 oa (ho x (.head _)) (fun b=>match b with | true=>k (some (i,y)) | false=>bX (Nat.succ i) (gX (β:=Nat->Bool) (fun _=>k none) (fun e _ ih i=>IC P t a' e.key fun b=>match b with | true=>k (some (i,e)) | false=>bX (Nat.succ i) ih) jQ));rw [g2];by_cases he:a=x.1
   ·have:e=true:=g1.2 he
    subst this;refine .inr ⟨0,x.2,y,by simp [WO,he],rfl,?_,r0.2,fun z=>by simp [OB,he],rfl⟩;have:=r0.1;rw [<-he]at this;exact this.fn ha
   ·have:e=false:=by cases e with | false=>rfl | true=>exact bC (g1.1 rfl) he
    subst this;rw [bJ];rcases ih (i+1) r.tail (fun e he=>ho e (.tail _ he))with ⟨q1,q2,q3⟩ | ⟨j,v,e',q1,q2,q3,q4,q5,q6⟩
    ·exact .inl ⟨by simp [WO,he,q1],fun z=>by simp [OB,he,q2 z],q3⟩
    ·refine .inr ⟨j+1,v,e',by simp [WO,he,q1],by simpa using q2,q3,q4,fun z=>by simp [OB,he,q5 z],?_⟩
     rw [show i+(j+1)=i+1+j by omega];exact q6
theorem VS.map (s:VS P B Sb c h S){i:Nat}{es:List (V×V)} (e:h i=some (.map es)):∃b jQ ck,c.Z i=some b/\S.obj b=some (.map jQ ck)/\EsR c S (dO B c h) es jQ:=by
 obtain⟨b,a,a1,a2,a3,a4,jQ,ck,rfl,_,a5,a6⟩:=s.ob i _ e rfl;exact⟨b,jQ,ck,a1,a4,a5,a6⟩
theorem VS.aRI (s:VS P B Sb c h S){i:Nat}{es:List (V×V)} (e:h i=some (.map es)):∃b jQ ck,c.Z i=some b/\S.obj b=some (.map jQ ck)/\EsR c S (dO B c h) es jQ/\LR jQ ck:=by
 obtain⟨b,a,a1,a2,a3,a4,jQ,ck,rfl,a7,a5,a6⟩:=s.ob i _ e rfl;exact⟨b,jQ,ck,a1,a4,⟨a5,a6⟩,a7⟩
theorem aDx{b:Nat}{es:List MapEntry}{ck:Nat} (e:S.obj b=some (.map es ck)) (k:Option Nat->List MapEntry->Nat->Bool):Vk S (.map (some b)) k=k (some b) es ck:=by
 show rL S.h b _=_;rw [nE];have e:S.h.get b=some (.map es ck):=e;rw [e]
theorem aGw (s:VS P B Sb c h S){t kt et:TypeId}{sh:KSh}{z:Value}{zv:V}{ok:Bool} (ht:ID P t=some (kt,et)) (hs:Pi P kt=some sh) (hz:zeroV P et=some z) (hzv:ofC z=some zv){m a:V}{w u:Value} (r:fN c S (dO B c h) m w) (q:fN c S (dO B c h) a u){Kv:KV}{K:VK} (k:KR P B Sb c h S Kv K) (hv:Pj sh zv ok m a h Kv):XE P t w u ok S K=true:=by
 unfold Pj at hv;split at hv
 ·rename_i i
  cases r with
  | yZ hZ=>
   split at hv
   ·rename_i es e
    obtain⟨oa,ho,hv1,hv2⟩:=hv;obtain⟨b,jQ,ck,a1,a2,a3⟩:=s.map e;rw [hZ]at a1;injection a1 with a1;subst a1;obtain⟨hf,rz⟩:=aJv (c:=c) (S:=S) (C:=dO B c h) hzv;unfold XE;simp only [ht,hz,aBP hs q oa];rw [aDx a2];unfold Hy
    rcases aBQ hs q oa (fun r=>match(generalizing:=false) r with
     | some (_,e)=>match(generalizing:=false) ok with | true=>K (.tuple ⟨[e.val,.bool true]⟩) S | false=>K e.val S
     | none=>match(generalizing:=false) kO z with
      | true=>match(generalizing:=false) ok with | true=>K (.tuple ⟨[z,.bool false]⟩) S | false=>K z S
      | false=>false) 0 a3 ho with ⟨q1,_,q3⟩ | ⟨j,v,e',q1,q2,q3,q4,_,q6⟩
    ·refine q3.trans ?_
     simp only [hf];cases ok with
     | true=>exact k.here s (.tuple (lT.cons rz (.cons .bool .nil)).len (lT.cons rz (.cons .bool .nil)).rd) (hv2 q1)
     | false=>exact k.here s rz (hv2 q1)
    ·refine q6.trans ?_
     cases ok with
     | true=>exact k.here s (.tuple (lT.cons q4 (.cons .bool .nil)).len (lT.cons q4 (.cons .bool .nil)).rd) (hv1 v q1)
     | false=>exact k.here s q4 (hv1 v q1)
   ·cases hv
 ·cases hv
theorem aDq (s:VS P B Sb c h S){t kt et:TypeId}{sh:KSh} (ht:ID P t=some (kt,et)) (hs:Pi P kt=some sh){m a x:V}{w u y:Value} (r:fN c S (dO B c h) m w) (q:fN c S (dO B c h) a u) (rx:fN c S (dO B c h) x y){Kv:KV}{K:VK} (k:KR P B Sb c h S Kv K) (hv:AE sh m a x h fun h=>Kv WM h):FI P t w u y S (fun S=>K undef S)=true:=by
 unfold AE at hv;split at hv
 ·rename_i i
  cases r with
  | yZ hZ=>
   split at hv
   ·rename_i es e
    obtain⟨oa,ho,hv⟩:=hv;obtain⟨b,jQ,ck,a1,a2,a3,a8⟩:=s.aRI e;have a1':=a1;rw [hZ]at a1;injection a1 with a1;subst a1;unfold FI;simp only [ht,aBP hs q oa];rw [aDx a2];simp only;unfold Hy
    have fin:∀es2 ck2,LR es2 ck2->EsR c S (dO B c h) (OB es a x) es2->K undef (S.set _ (.map es2 ck2))=true:=fun es2 ck2 b2 r2=>by
     obtain⟨s1,f1⟩:=s.Uu e rfl hZ (o:= .map (OB es a x)) rfl (ao:= .map es2 ck2) fun S' C' f=>⟨es2,ck2,rfl,b2,r2.1,fun k x y p q=>⟨(r2.2 k x y p q).1.mono (.refl c) f,(r2.2 k x y p q).2.mono (.refl c) f⟩⟩;exact k c _ _ WM undef (.refl c) f1 s1 (.tuple (a':=[]) rfl fun k v w e=>by simp at e) hv
    rcases aBQ hs q oa (fun f=>match f with
     | some (i,e)=>match Instr.sameBits 10000 e.key u with
      | true=>aDT {e with val:=y} jQ i fun es=>sV S _ (.map es ck) fun S=>K undef S
      | false=>false
     | none=>FE jQ [{key:=u,val:=y,born:=ck}] fun es=>bX (Nat.succ ck) fun c=>sV S _ (.map es c) fun S=>K undef S) 0 a3 ho with ⟨q1,q2,q3⟩ | ⟨j,v,e',q1,q2,q3,q4,q5,q6⟩
    ·refine q3.trans ?_
     rw [nF,bJ,gU];refine fin _ _ (a8.app rfl) ?_;rw [q2 x];refine⟨by simp [a3.1],fun k p p' e1 e2=>?_⟩;by_cases hk:k<es.length
     ·rw [gO hk]at e1
      rw [gO (by rw [<-a3.1];exact hk)]at e2;exact a3.2 k p p' e1 e2
     ·rw [kH (by omega)]at e1
      rw [kH (by rw [<-a3.1];omega),<-a3.1]at e2;cases hq:k-es.length with
      | zero=>
       rw [hq]at e1 e2;simp at e1 e2;subst e1 e2;exact⟨q,rx⟩
      | succ n=>rw [hq]at e1;simp at e1
    ·refine q6.trans ?_
     simp only [eJ,q3];rw [aMl q oa 9999];simp only;rw [Ml,gU];refine fin _ _ (a8.set q2 rfl) ?_;rw [q5 x];refine⟨by simp [a3.1],fun k p p' e1 e2=>?_⟩;by_cases hk:k=j
     ·subst hk
      rw [Lw,aO rfl]at e1 e2;split at e1
      ·rename_i hlt
       rw [aO (by rw [<-a3.1];exact hlt)]at e2;injection e1 with e1;injection e2 with e2;subst e1 e2;exact⟨q,rx⟩
      ·cases e1
     ·rw [HX (aP hk)]at e1 e2
      exact a3.2 k p p' e1 e2
   ·cases hv
 ·cases hv
theorem Jd (s:VS P B Sb c h S){Kv:KV}{K:VK} (k:KR P B Sb c h S Kv K) (hv:Eo h Kv):zU S (.map [] 0) (fun i S=>K (.map (some i)) S)=true:=by
 obtain⟨i,e1,e2,e3⟩:=s.fresh;obtain⟨s1,l1,f1,i1⟩:=s.aEX e1 e2 e3 (o:= .map []) (ao:= .map [] 0) rfl fun _ _ _ _ _=>⟨[],0,rfl,⟨.nil,fun e he=>by cases he⟩,rfl,fun k x y p=>by simp at p⟩;rw [jF];exact k _ _ _ _ _ l1 f1 s1 (.yZ i1) (hv i e1)
theorem Yw (s:VS P B Sb c h S){r:V}{w:Value} (rr:fN c S C r w){t:TypeId}{kv:TypeId×TypeId} (ht:ID P t=some kv){Kv:KV}{K:VK} (k:KR P B Sb c h S Kv K) (hv:Ep r h Kv):
 (match(generalizing:=false) w,ID P t with | .int _ _,some _=>zU S (.map [] 0) (fun i S=>K (.map (some i)) S) | _,_=>false)=true:=by
 unfold Ep at hv;split at hv
 ·cases rr
  rw [ht];exact Jd s k hv
 ·cases hv
theorem aGv (s:VS P B Sb c h S){t kt et:TypeId} (hu:P.underlying t=some (.map kt et)){x:V}{w:Value} (r:fN c S (dO B c h) x w){Kv:KV}{K:VK} (k:KR P B Sb c h S Kv K) (hv:Pk x h Kv):oO P .len [t] [w] S K=true:=by
 unfold Pk at hv;split at hv
 ·rename_i i
  cases r with
  | yZ hZ=>
   split at hv
   ·rename_i es e
    obtain⟨b,jQ,ck,a1,a2,a3⟩:=s.map e;rw [hZ]at a1;injection a1 with a1;subst a1;have hm:ID P t=some (kt,et):=by unfold ID;rw [hu]
    simp only [oO,hm];rw [aDx a2,nY,<-a3.1];exact k.here s .int hv
   ·cases hv
 ·cases hv
theorem aBI (s:VS P B Sb c h S){t:TypeId}{kv:TypeId×TypeId} (ht:ID P t=some kv){x:V}{w:Value} (r:fN c S (dO B c h) x w){Kv:KV}{K:VK} (k:KR P B Sb c h S Kv K) (hv:GS x h Kv):Cd P t w S K=true:=by
 unfold GS at hv;split at hv
 ·rename_i m
  cases r with
  | yZ hZ=>
   split at hv
   ·rename_i es e
    obtain⟨b,jQ,ck,a1,a2,a3,a4⟩:=s.aRI e;rw [hZ]at a1;injection a1 with a1;subst a1;have By:(jQ.map (·.born)).length=es.length:=by rw [mE];exact a3.1.symm
    have MP:∀x∈jQ.map (·.born),x<ck:=fun x hx=>by
     obtain⟨y,hy,rfl⟩:=List.mem_map.1 hx;exact a4.2 y hy
    obtain⟨s1,hL⟩:=s.aRG e rfl hZ (o:= .wP es (jQ.map (·.born)) ck) rfl fun a C' ha q=>by
     rw [a2]at ha;injection ha with ha;subst ha;obtain⟨es2,ck2,q1,q2,q3,q4⟩:=q;injection q1 with q1 q5;subst q1 q5;exact⟨_,rfl,rfl,q2,q3,q4⟩
    obtain⟨i,e1,e2,e3⟩:=s1.fresh;obtain⟨s2,l2,f2,i2⟩:=s1.aEX e1 e2 e3 (o:= .iter m ck [] ck) (ao:= .iter (some _) ck [] ck) rfl fun d _ _ ld _=>⟨_,rfl,ld.Z _ _ hZ⟩;unfold Cd;rw [ht];show rL S.h _ _=true;have a2:S.h.get _=some (.map jQ ck):=a2;rw [nE,a2];show zU S (.iter (some _) ck [] ck) (fun i S=>K (.pointer (some ⟨i,0,none⟩)) S)=true;rw [jF];rw [hL]at f2;exact k _ _ _ _ _ l2 f2 s2 (.ptr i2) (hv _ ck By a4.1 MP i e1)
   ·cases hv
 ·cases hv
theorem VS.iter (s:VS P B Sb c h S){i m since last:Nat}{seen:List Nat} (e:h i=some (.iter m since seen last)):∃b r,c.Z i=some b/\S.obj b=some (.iter (some r) since seen last)/\c.Z m=some r:=by
 obtain⟨b,a,a1,a2,a3,a4,r,rfl,a5⟩:=s.ob i _ e rfl;exact⟨b,r,a1,a4,a5⟩
theorem VS.wP (s:VS P B Sb c h S){i ck:Nat}{es:List (V×V)}{bs:List Nat} (e:h i=some (.wP es bs ck)):∃b jQ,c.Z i=some b/\S.obj b=some (.map jQ ck)/\jQ.map (·.born)=bs/\LR jQ ck/\EsR c S (dO B c h) es jQ:=by
 obtain⟨b,a,a1,a2,a3,a4,jQ,rfl,a7,a8,a5,a6⟩:=s.ob i _ e rfl;exact⟨b,jQ,a1,a4,a7,a8,a5,a6⟩
theorem aDr (s:VS P B Sb c h S){x:V}{w:Value} (r:fN c S (dO B c h) x w){Kv:KV}{K:VK} (k:KR P B Sb c h S Kv K) (hv:LN x h Kv):aDW w S K=true:=by
 unfold LN at hv;split at hv
 ·rename_i i
  cases r with
  | ptr hZ=>
   rename_i bb;split at hv
   ·rename_i m since seen last ei
    split at hv
    ·rename_i es bs ck em
     obtain⟨hbs,VZ,hv1,hv2⟩:=hv;obtain⟨b,rr,a1,a2,a3⟩:=s.iter ei;rw [hZ]at a1;injection a1 with a1;subst a1;obtain⟨b2,jQ,c1,c2,c3,c4,c5⟩:=s.wP em;rw [a3]at c1;injection c1 with c1;subst c1;show rL S.h _ _=true;have a2':S.h.get _=some (.iter (some rr) since seen last):=a2;have c2':S.h.get rr=some (.map jQ ck):=c2;rw [nE,a2'];show rL S.h rr _=true;rw [nE,c2']
     have h1:xP (fun e:MapEntry=>Nat.blt e.born since) jQ=true:=by
      rw [nD,HZ];intro e he;exact nO (hbs _ (by rw [<-c3];exact List.mem_map.2 ⟨e,he,rfl⟩))
     simp only [h1,nO VZ];rw [aAk]
     have oP:(jQ.filter (fun e=> !seen.contains e.born)).all (fun e=>FE seen [e.born] fun seen=>sV S bb (.iter (some rr) since seen ck) fun S=>K (.tuple ⟨[.bool true,e.key,e.val]⟩) S)=true:=by
      rw [HZ];intro e he;obtain⟨he1,he2⟩:=List.mem_filter.1 he;obtain⟨j,hj,rfl⟩:=ZY he1;have Rx:j<es.length:=by rw [c5.1];exact hj
      have hns:¬jQ[j].born∈seen:=by simpa using he2
      rw [nF,gU];obtain⟨s1,f1⟩:=s.Uu ei rfl hZ (o:= .iter m since (seen++[jQ[j].born]) ck) rfl (ao:= .iter (some rr) since (seen++[jQ[j].born]) ck) fun S' C' f=>⟨rr,rfl,a3⟩;obtain⟨q1,q2⟩:=c5.2 j _ _ (aT Rx) (aT hj);refine k c _ _ _ _ (.refl c) f1 s1 ?_ (hv2 j es[j] jQ[j].born (aT Rx) (by rw [<-c3,eH,aT hj];rfl) hns);have rl:lT c (S.set bb (.iter (some rr) since (seen++[jQ[j].born]) ck)) (dO B c (aL h i (.iter m since (seen++[jQ[j].born]) ck))) [.bool true,es[j].1,es[j].2] [.bool true,jQ[j].key,jQ[j].val]:= .cons .bool (.cons (q1.mono (.refl c) f1) (.cons (q2.mono (.refl c) f1) .nil));exact .tuple rl.len rl.rd
     cases hf:jQ.filter (fun e=> !seen.contains e.born)with
     | nil=>
      have Qx:∀b∈bs,b∈seen:=by
       intro b hb;rw [<-c3]at hb;obtain⟨e,he,rfl⟩:=List.mem_map.1 hb;by_cases hc:e.born∈seen
       ·exact hc
       ·have:e∈jQ.filter (fun e=> !seen.contains e.born):=List.mem_filter.2 ⟨he,by simpa using hc⟩
        rw [hf]at this;cases this
      obtain⟨s1,hL⟩:=s.aRG em rfl a3 (o:= .map es) rfl fun a C' ha q=>by
       obtain⟨es2,q1,q2,q3,q4,q5⟩:=q;exact⟨es2,ck,q1,q3,q4,q5⟩
      refine k c _ _ _ _ (.refl c) (by rw [hL];exact .refl _ _) s1 ?_ (hv1 Qx);have rl:lT c S (dO B c (aL h m (.map es))) [.bool false] [.bool false]:= .cons .bool .nil;exact .tuple rl.len rl.rd
     | cons e t=>
      rw [hf]at oP;simp only [nD];exact oP
    ·cases hv
   ·cases hv
 ·cases hv
theorem aJX{l:List Nat}{b:Nat}{k:Nat->Bool} (h:l.getLast?=some b):aAe l k=k b:=by
 induction l with
 | nil=>cases h
 | cons n t ih=>
  cases t with
  | nil=>injection h with h;subst h;rfl
  | cons m t=>
   rw [List.getLast?_cons_cons]at h;exact ih h
theorem aDy{n:Nat}{k:Nat->MapEntry->Bool}:∀{es:List MapEntry} {j i:Nat} {e:MapEntry},(es.map (·.born)).Pairwise (· < ·)->es[j]? =some e->e.born=n->MO n k es i=k (i+j) e:=by
 intro es;induction es with
 | nil=>intro j i e _ h;simp at h
 | cons a es ih=>
  intro j i e hp he hb;rw [Ae,List.pairwise_cons]at hp;cases j with
  | zero=>
   simp at he;subst he;show(match Nat.beq a.born n with | true=>k i a | false=>bX (Nat.succ i) fun i=>MO n k es i)=_;have:Nat.beq a.born n=true:=by rw [hb];simp
   rw [this,UH]
  | succ j=>
   have he:es[j]? =some e:=by simpa using he
   have hlt:=hp.1 e.born (List.mem_map.2 ⟨e,CY he,rfl⟩);show(match Nat.beq a.born n with | true=>k i a | false=>bX (Nat.succ i) fun i=>MO n k es i)=_;have:Nat.beq a.born n=false:=by cases hq:Nat.beq a.born n with | false=>rfl | true=>have:=dH hq;omega
   rw [this];show bX (Nat.succ i) (fun i=>MO n k es i)=_;rw [bJ];show MO n k es (Nat.succ i)=_;rw [ih hp.2 he hb]
   congr 1;omega
theorem aJY{n:Nat}{k:Nat->MapEntry->Bool}{es:List MapEntry}{j:Nat}{e:MapEntry} (hp:(es.map (·.born)).Pairwise (· < ·)) (he:es[j]? =some e) (hb:e.born=n):Tc n es k=k j e:=by
 have:=aDy (k:=k) (i:=0) hp he hb;rw [eJ]at this;exact this
theorem aBJ (s:VS P B Sb c h S){x:V}{w:Value} (r:fN c S (dO B c h) x w){Kv:KV}{K:VK} (k:KR P B Sb c h S Kv K) (hv:RM x h Kv):Vm w S K=true:=by
 unfold RM at hv;split at hv
 ·rename_i i
  cases r with
  | ptr hZ=>
   rename_i bb;split at hv
   ·rename_i m since seen last ei
    split at hv
    ·rename_i es bs ck em
     obtain⟨rfl,hp,j,e,b0,h1,h2,h3,hv⟩:=hv;obtain⟨b,rr,a1,a2,a3⟩:=s.iter ei;rw [hZ]at a1;injection a1 with a1;subst a1;obtain⟨b2,jQ,c1,c2,c3,c4,c5⟩:=s.wP em;rw [a3]at c1;injection c1 with c1;subst c1;show rL S.h _ _=true;have a2':S.h.get _=some (.iter (some rr) since seen ck):=a2;have c2':S.h.get rr=some (.map jQ ck):=c2;rw [nE,a2'];show rL S.h rr _=true;rw [nE,c2'];have hcc:Nat.beq ck ck=true:=by simp
     have hlt:aAe seen (fun b=>Tc b jQ fun _ e=>K (.tuple ⟨[e.key,e.val]⟩) S)=Tc b0 jQ fun _ e=>K (.tuple ⟨[e.key,e.val]⟩) S:=aJX h3;simp only [hcc];rw [hlt];have hj:j<jQ.length:=by rw [<-c5.1];exact(List.getElem?_eq_some_iff.1 h1).1
     have hb:jQ[j].born=b0:=by
      rw [<-c3,eH,aT hj]at h2;exact Option.some.inj h2
     rw [aJY c4.1 (aT hj) hb];obtain⟨q1,q2⟩:=c5.2 j _ _ h1 (aT hj);have rl:lT c S (dO B c h) [e.1,e.2] [jQ[j].key,jQ[j].val]:= .cons q1 (.cons q2 .nil);exact k.here s (.tuple rl.len rl.rd) hv
    ·cases hv
   ·cases hv
 ·cases hv
theorem aJL{op:BinOp}{t:TypeId}{a b:V}{u w:Value} (r:fN c S C a u) (q:fN c S C b w){Kv:V->Prop}{K:Value->Bool} (k:∀v w,fN c S C v w->Kv v->K w=true) (hv:aPm P op t a b Kv):aHN P op t u w K=true:=by
 rw [RA];unfold aPm at hv;split at hv
 ·rename_i l hl
  cases r<;>try (cases hv;done)
  rename_i xs xs' la rxa;cases q<;>try (cases hv;done)
  rename_i ys ys' lb ryb;obtain⟨ox,oy,hv⟩:=hv;unfold Pi at hl;split at hl
  ·cases hl
  ·split at hl
   ·rename_i fs hfs
    split at hl
    ·rename_i l' Qw
     injection hl with hl;injection hl with hl;subst hl
     have eq:∀kk:Bool->Bool,∃e:Bool,(e=true↔xs=ys)/\pN P t (.agg ⟨xs'⟩) (.agg ⟨ys'⟩) kk=kk e:=fun kk=>by
      obtain⟨e,g1,g2⟩:=aJU (k:=kk) Qw ⟨la,rxa⟩ ⟨lb,ryb⟩ ox oy;refine⟨e,g1,?_⟩;unfold pN;simp only [hfs];exact g2
     cases op<;>first | (cases hv;done) | skip
     ·show pN P t (.agg ⟨xs'⟩) (.agg ⟨ys'⟩) (fun e=>oN e K)=true
      obtain⟨e,g1,g2⟩:=eq fun e=>oN e K;rw [g2,rO];cases e with
      | true=>exact k _ _ .bool (hv.1 (g1.1 rfl))
      | false=>exact k _ _ .bool (hv.2 fun h=>by have:=g1.2 h;cases this)
     ·show pN P t (.agg ⟨xs'⟩) (.agg ⟨ys'⟩) (fun e=>oN (!e) K)=true
      obtain⟨e,g1,g2⟩:=eq fun e=>oN (!e) K;rw [g2,rO];cases e with
      | true=>exact k _ _ .bool (hv.1 (g1.1 rfl))
      | false=>exact k _ _ .bool (hv.2 fun h=>by have:=g1.2 h;cases this)
    ·cases hl
   ·cases hl
 ·cases hv
end
end Go.Am
